/- Trees: what is a part of an expression. No condition. -/
import Derived.Test.YtlafnhpmhflnaaaQzp
set_option linter.unusedVariables false
set_option linter.unusedSectionVars false
set_option linter.unnecessarySimpa false
set_option linter.unusedSimpArgs false
set_option maxRecDepth 100000
set_option maxHeartbeats 4000000
namespace Go.Proofs.Ytlafnhpmhflnaaa.Q
open Go.RowKit
variable [Amb]
def partsL : List Int := [-1, 0, 0, 0, 0, 1, 1, 1, 2, 2, 2, 2, 2, 2, 2, 2, 2, 2]
/-- How many parts a kind of expressions has. -/
def partsS (op : Int) : Int := if op < 0 then -1 else if 18 ≤ op then -1 else partsL.getD op.toNat (-1)
theorem parts_c (op : Int) : PFun Try.prog 87 [iv op] [] (iv (partsS op)) [] := by
  refine fn_sem pok 14 0 Try.func87 (by kernel_rfl) rfl rfl rfl rfl ?_
  by_cases h0 : op < 0
  · refine SWp.go pok (by kernel_rfl) ?_
    refine brP_true (decide_eq_true h0) ?_
    exact fin1 (dint (by rw [partsS, if_pos h0]))
  by_cases h1 : 18 ≤ op
  · refine SWp.go pok (by kernel_rfl) ?_
    refine brP_false (decide_eq_false h0) ?_
    refine brP_true (decide_eq_true (by omega)) ?_
    exact fin1 (dint (by rw [partsS, if_neg h0, if_pos h1]))
  have : op = 0 ∨ op = 1 ∨ op = 2 ∨ op = 3 ∨ op = 4 ∨ op = 5 ∨ op = 6 ∨ op = 7 ∨ op = 8 ∨ op = 9 ∨ op = 10 ∨ op = 11 ∨ op = 12 ∨ op = 13 ∨ op = 14 ∨ op = 15 ∨ op = 16 ∨ op = 17 := by omega
  rcases this with rfl | rfl | rfl | rfl | rfl | rfl | rfl | rfl | rfl | rfl | rfl | rfl | rfl | rfl | rfl | rfl | rfl | rfl <;>
  · refine SWp.go pok (by kernel_rfl) ?_
    exact ⟨by decide, fin1 rfl⟩
/-- Whether an expression has its shape, its parts aside. -/
def isPartS (x : Ex) : Bool :=
  ((x.kids.length : Int) == partsS x.op) && (bif x.op == 4 then isName x.mon && isName x.name else (x.mon == []) && (x.name == [])) && (decide (x.n ≥ 0) && ((x.op == 1) || (x.op == 7) || (x.n == 0)))
theorem isPart_c (x : Ex) (hk : x.kids.length < 1073741824) (hm : x.mon.length < 1073741824) (hn : x.name.length < 1073741824) : PFun Try.prog 68 [x.v] [] (.d (.bool (isPartS x))) [] := by
  refine fn_sem pok 62 0 Try.func68 (by kernel_rfl) rfl rfl rfl rfl ?_
  refine SWp.go pok (by kernel_rfl) ?_
  repeat' first
    | refine brP_split (fun h => ?_) (fun h => ?_)
    | refine PFun.call (name_c x.mon hm) ?_
    | refine PFun.call (name_c x.name hn) ?_
    | refine ⟨_, _, parts_c x.op, ?_⟩
  all_goals
    refine fin1 (dbool ?_)
    unfold isPartS
    simp_all
    try omega
end Go.Proofs.Ytlafnhpmhflnaaa.Q
