/- The program's types; numbers; what num and the reference's numbers compute. No condition. -/
import Derived.Test.YtlafnhpmhflnaaaMB
import Derived.Test.YtlafnhpmhflnaaaProg
import Derived.KernelRfl
import Derived.Tactics
import Derived.Laws.BitsLemmas
import Derived.Laws.MathBits
import Derived.Laws.Bits64
import Derived.RowKit
set_option linter.unusedVariables false
set_option maxRecDepth 100000
namespace Go.Proofs.Ytlafnhpmhflnaaa.Q
def tab : List (Option TE) :=
  [some ⟨1, 0, .other, none, false⟩,
   some ⟨1, 8, .other, some (.d (.raw .nilFunc)), false⟩,
   some ⟨1, 8, .int .i64, some (.d (.int .i64 0)), false⟩,
   some ⟨1, 8, .int .i64, some (.d (.int .i64 0)), false⟩,
   some ⟨1, 1, .bool, some (.d (.bool false)), false⟩,
   some ⟨1, 1, .int .u8, some (.d (.int .u8 0)), false⟩,
   some ⟨1, 1, .int .u8, some (.d (.int .u8 0)), false⟩,
   some ⟨4, 24, .struct [(0, 2), (1, 3), (2, 4), (3, 6)], some (.agg [.d (.int .i64 0), .d (.int .i64 0), .d (.bool false), .d (.int .u8 0)]), true⟩,
   some ⟨4, 24, .struct [(0, 2), (1, 3), (2, 4), (3, 6)], some (.agg [.d (.int .i64 0), .d (.int .i64 0), .d (.bool false), .d (.int .u8 0)]), true⟩,
   some ⟨1, 16, .str, some (.d (.str [])), false⟩,
   some ⟨1, 16, .str, some (.d (.str [])), false⟩,
   some ⟨1, 16, .str, some (.d (.str [])), false⟩,
   some ⟨1, 8, .int .u64, some (.d (.int .u64 0)), false⟩,
   some ⟨2, 24, .struct [(0, 9), (1, 12)], some (.agg [.d (.str []), .d (.int .u64 0)]), false⟩,
   some ⟨2, 24, .struct [(0, 9), (1, 12)], some (.agg [.d (.str []), .d (.int .u64 0)]), false⟩,
   some ⟨1, 8, .ptr 141, some (.d (.raw (.pointer none))), false⟩,
   some ⟨1, 8, .ptr 144, some (.d (.raw (.pointer none))), false⟩,
   some ⟨1, 8, .ptr 154, some (.d (.raw (.pointer none))), false⟩,
   some ⟨1, 8, .struct [(0, 17)], some (.agg [.d (.raw (.pointer none))]), false⟩,
   some ⟨1, 8, .struct [(0, 17)], some (.agg [.d (.raw (.pointer none))]), false⟩,
   some ⟨1, 16, .other, some (.d (.raw .nilIface)), false⟩,
   some ⟨1, 4, .int .i32, some (.d (.int .i32 0)), false⟩,
   some ⟨1, 24, .slice 61, some (.fsl []), false⟩,
   some ⟨1, 24, .slice 69, some (.fsl []), false⟩,
   some ⟨2, 48, .struct [(0, 22), (1, 23)], some (.agg [.fsl [], .fsl []]), false⟩,
   some ⟨2, 48, .struct [(0, 22), (1, 23)], some (.agg [.fsl [], .fsl []]), false⟩,
   some ⟨1, 24, .slice 28, some (.fsl []), false⟩,
   some ⟨6, 80, .struct [(0, 3), (1, 9), (2, 9), (3, 2), (4, 26), (5, 3)], some (.agg [.d (.int .i64 0), .d (.str []), .d (.str []), .d (.int .i64 0), .fsl [], .d (.int .i64 0)]), false⟩,
   some ⟨6, 80, .struct [(0, 3), (1, 9), (2, 9), (3, 2), (4, 26), (5, 3)], some (.agg [.d (.int .i64 0), .d (.str []), .d (.str []), .d (.int .i64 0), .fsl [], .d (.int .i64 0)]), false⟩,
   some ⟨1, 8, .other, some (.d (.raw .nilFunc)), false⟩,
   some ⟨1, 8, .other, some (.d (.raw .nilFunc)), false⟩,
   some ⟨1, 8, .other, some (.d (.raw .nilFunc)), false⟩,
   some ⟨1, 24, .slice 71, some (.fsl []), false⟩,
   some ⟨2, 32, .struct [(0, 2), (1, 32)], some (.agg [.d (.int .i64 0), .fsl []]), false⟩,
   some ⟨2, 32, .struct [(0, 2), (1, 32)], some (.agg [.d (.int .i64 0), .fsl []]), false⟩,
   some ⟨1, 0, .other, none, false⟩,
   some ⟨1, 8, .other, some (.d (.raw .nilFunc)), false⟩,
   some ⟨1, 8, .other, some (.d (.raw .nilFunc)), false⟩,
   some ⟨1, 8, .other, some (.d (.raw .nilFunc)), false⟩,
   some ⟨3, 40, .struct [(0, 3), (1, 34)], some (.agg [.d (.int .i64 0), .d (.int .i64 0), .fsl []]), false⟩,
   some ⟨3, 40, .struct [(0, 3), (1, 34)], some (.agg [.d (.int .i64 0), .d (.int .i64 0), .fsl []]), false⟩,
   some ⟨1, 24, .slice 2, some (.fsl []), false⟩,
   some ⟨1, 8, .other, some (.d (.raw .nilFunc)), false⟩,
   some ⟨1, 0, .other, none, false⟩,
   some ⟨1, 8, .other, some (.d (.raw .nilFunc)), false⟩,
   some ⟨1, 0, .other, none, false⟩,
   some ⟨1, 8, .other, some (.d (.raw .nilFunc)), false⟩,
   some ⟨1, 8, .other, some (.d (.raw .nilFunc)), false⟩,
   some ⟨1, 8, .other, some (.d (.raw .nilFunc)), false⟩,
   some ⟨1, 8, .other, some (.d (.raw .nilFunc)), false⟩,
   some ⟨1, 8, .other, some (.d (.raw .nilFunc)), false⟩,
   some ⟨1, 8, .other, some (.d (.raw .nilFunc)), false⟩,
   some ⟨1, 8, .other, some (.d (.raw .nilFunc)), false⟩,
   some ⟨1, 8, .other, some (.d (.raw .nilFunc)), false⟩,
   some ⟨1, 8, .int .i64, some (.d (.int .i64 0)), false⟩,
   some ⟨1, 0, .other, none, false⟩,
   some ⟨1, 8, .other, some (.d (.raw .nilFunc)), false⟩,
   some ⟨1, 8, .other, some (.d (.raw .nilFunc)), false⟩,
   some ⟨1, 24, .slice 63, some (.fsl []), false⟩,
   some ⟨1, 24, .slice 66, some (.fsl []), false⟩,
   some ⟨4, 72, .struct [(0, 9), (1, 58), (2, 59), (3, 3)], some (.agg [.d (.str []), .fsl [], .fsl [], .d (.int .i64 0)]), false⟩,
   some ⟨4, 72, .struct [(0, 9), (1, 58), (2, 59), (3, 3)], some (.agg [.d (.str []), .fsl [], .fsl [], .d (.int .i64 0)]), false⟩,
   some ⟨6, 56, .struct [(0, 9), (1, 3), (2, 2), (3, 2), (4, 2), (5, 3)], some (.agg [.d (.str []), .d (.int .i64 0), .d (.int .i64 0), .d (.int .i64 0), .d (.int .i64 0), .d (.int .i64 0)]), true⟩,
   some ⟨6, 56, .struct [(0, 9), (1, 3), (2, 2), (3, 2), (4, 2), (5, 3)], some (.agg [.d (.str []), .d (.int .i64 0), .d (.int .i64 0), .d (.int .i64 0), .d (.int .i64 0), .d (.int .i64 0)]), true⟩,
   some ⟨1, 24, .slice 96, some (.fsl []), false⟩,
   some ⟨3, 48, .struct [(0, 9), (1, 64), (2, 3)], some (.agg [.d (.str []), .fsl [], .d (.int .i64 0)]), false⟩,
   some ⟨3, 48, .struct [(0, 9), (1, 64), (2, 3)], some (.agg [.d (.str []), .fsl [], .d (.int .i64 0)]), false⟩,
   some ⟨1, 8, .other, some (.d (.raw .nilFunc)), false⟩,
   some ⟨5, 64, .struct [(0, 9), (1, 4), (2, 2), (3, 64), (4, 3)], some (.agg [.d (.str []), .d (.bool false), .d (.int .i64 0), .fsl [], .d (.int .i64 0)]), false⟩,
   some ⟨5, 64, .struct [(0, 9), (1, 4), (2, 2), (3, 64), (4, 3)], some (.agg [.d (.str []), .d (.bool false), .d (.int .i64 0), .fsl [], .d (.int .i64 0)]), false⟩,
   some ⟨2, 16, .struct [(0, 3), (1, 2)], some (.agg [.d (.int .i64 0), .d (.int .i64 0)]), true⟩,
   some ⟨2, 16, .struct [(0, 3), (1, 2)], some (.agg [.d (.int .i64 0), .d (.int .i64 0)]), true⟩,
   some ⟨1, 0, .other, none, false⟩,
   some ⟨1, 8, .other, some (.d (.raw .nilFunc)), false⟩,
   some ⟨1, 0, .other, none, false⟩,
   some ⟨1, 8, .other, some (.d (.raw .nilFunc)), false⟩,
   some ⟨1, 8, .other, some (.d (.raw .nilFunc)), false⟩,
   some ⟨1, 8, .other, some (.d (.raw .nilFunc)), false⟩,
   some ⟨1, 8, .other, some (.d (.raw .nilFunc)), false⟩,
   some ⟨1, 8, .other, some (.d (.raw .nilFunc)), false⟩,
   some ⟨1, 24, .slice 3, some (.fsl []), false⟩,
   some ⟨1, 8, .other, some (.d (.raw .nilFunc)), false⟩,
   some ⟨1, 8, .other, some (.d (.raw .nilFunc)), false⟩,
   some ⟨1, 8, .other, some (.d (.raw .nilFunc)), false⟩,
   some ⟨1, 8, .other, some (.d (.raw .nilFunc)), false⟩,
   some ⟨1, 8, .other, some (.d (.raw .nilFunc)), false⟩,
   some ⟨1, 8, .int .u64, some (.d (.int .u64 0)), false⟩,
   some ⟨1, 8, .other, some (.d (.raw .nilFunc)), false⟩,
   some ⟨1, 8, .int .u64, some (.d (.int .u64 0)), false⟩,
   some ⟨1, 8, .other, some (.d (.raw .nilFunc)), false⟩,
   some ⟨1, 8, .ptr 92, some (.d (.raw (.pointer none))), false⟩,
   some ⟨4, 80, .struct [(0, 25), (2, 41), (3, 4)], some (.agg [.fsl [], .fsl [], .fsl [], .d (.bool false)]), false⟩,
   some ⟨4, 80, .struct [(0, 25), (2, 41), (3, 4)], some (.agg [.fsl [], .fsl [], .fsl [], .d (.bool false)]), false⟩,
   some ⟨1, 8, .other, some (.d (.raw .nilFunc)), false⟩,
   some ⟨1, 24, .slice 64, some (.fsl []), false⟩,
   some ⟨12, 160, .struct [(0, 3), (1, 9), (2, 9), (3, 2), (4, 28), (10, 94), (11, 3)], some (.agg [.d (.int .i64 0), .d (.str []), .d (.str []), .d (.int .i64 0), .d (.int .i64 0), .d (.str []), .d (.str []), .d (.int .i64 0), .fsl [], .d (.int .i64 0), .fsl [], .d (.int .i64 0)]), false⟩,
   some ⟨12, 160, .struct [(0, 3), (1, 9), (2, 9), (3, 2), (4, 28), (10, 94), (11, 3)], some (.agg [.d (.int .i64 0), .d (.str []), .d (.str []), .d (.int .i64 0), .d (.int .i64 0), .d (.str []), .d (.str []), .d (.int .i64 0), .fsl [], .d (.int .i64 0), .fsl [], .d (.int .i64 0)]), false⟩,
   some ⟨1, 8, .other, some (.d (.raw .nilFunc)), false⟩,
   some ⟨1, 8, .ptr 102, some (.d (.raw (.pointer none))), false⟩,
   some ⟨1, 8, .other, some (.d (.raw .nilFunc)), false⟩,
   some ⟨1, 8, .other, some (.d (.raw .nilFunc)), false⟩,
   some ⟨5, 88, .struct [(0, 25), (2, 58), (3, 54), (4, 3)], some (.agg [.fsl [], .fsl [], .fsl [], .d (.int .i64 0), .d (.int .i64 0)]), false⟩,
   some ⟨5, 88, .struct [(0, 25), (2, 58), (3, 54), (4, 3)], some (.agg [.fsl [], .fsl [], .fsl [], .d (.int .i64 0), .d (.int .i64 0)]), false⟩,
   some ⟨1, 0, .other, none, false⟩,
   some ⟨1, 8, .other, some (.d (.raw .nilFunc)), false⟩,
   some ⟨1, 8, .other, some (.d (.raw .nilFunc)), false⟩,
   some ⟨1, 0, .other, none, false⟩,
   some ⟨1, 8, .other, some (.d (.raw .nilFunc)), false⟩,
   some ⟨1, 8, .other, some (.d (.raw .nilFunc)), false⟩,
   some ⟨1, 24, .slice 32, some (.fsl []), false⟩,
   some ⟨1, 8, .other, some (.d (.raw .nilFunc)), false⟩,
   some ⟨1, 8, .other, some (.d (.raw .nilFunc)), false⟩,
   some ⟨1, 8, .other, some (.d (.raw .nilFunc)), false⟩,
   some ⟨1, 8, .other, some (.d (.raw .nilFunc)), false⟩,
   some ⟨1, 8, .other, some (.d (.raw .nilFunc)), false⟩,
   some ⟨1, 8, .other, some (.d (.raw .nilFunc)), false⟩,
   some ⟨2, 16, .struct [(0, 3), (1, 3)], some (.agg [.d (.int .i64 0), .d (.int .i64 0)]), true⟩,
   some ⟨2, 16, .struct [(0, 3), (1, 3)], some (.agg [.d (.int .i64 0), .d (.int .i64 0)]), true⟩,
   some ⟨1, 8, .other, some (.d (.raw .nilFunc)), false⟩,
   some ⟨1, 8, .other, some (.d (.raw .nilFunc)), false⟩,
   some ⟨1, 8, .other, some (.d (.raw .nilFunc)), false⟩,
   some ⟨1, 8, .other, some (.d (.raw .nilFunc)), false⟩,
   some ⟨1, 8, .other, some (.d (.raw .nilFunc)), false⟩,
   some ⟨1, 8, .other, some (.d (.raw .nilFunc)), false⟩,
   some ⟨1, 8, .other, some (.d (.raw .nilFunc)), false⟩,
   some ⟨1, 8, .other, some (.d (.raw .nilFunc)), false⟩,
   some ⟨1, 8, .other, some (.d (.raw .nilFunc)), false⟩,
   some ⟨1, 8, .other, some (.d (.raw .nilFunc)), false⟩,
   some ⟨36, 288, .arr 18 117, some (.agg [.d (.int .i64 0), .d (.int .i64 0), .d (.int .i64 0), .d (.int .i64 0), .d (.int .i64 0), .d (.int .i64 0), .d (.int .i64 0), .d (.int .i64 0), .d (.int .i64 0), .d (.int .i64 0), .d (.int .i64 0), .d (.int .i64 0), .d (.int .i64 0), .d (.int .i64 0), .d (.int .i64 0), .d (.int .i64 0), .d (.int .i64 0), .d (.int .i64 0), .d (.int .i64 0), .d (.int .i64 0), .d (.int .i64 0), .d (.int .i64 0), .d (.int .i64 0), .d (.int .i64 0), .d (.int .i64 0), .d (.int .i64 0), .d (.int .i64 0), .d (.int .i64 0), .d (.int .i64 0), .d (.int .i64 0), .d (.int .i64 0), .d (.int .i64 0), .d (.int .i64 0), .d (.int .i64 0), .d (.int .i64 0), .d (.int .i64 0)]), false⟩,
   some ⟨1, 8, .other, some (.d (.raw .nilFunc)), false⟩,
   some ⟨1, 8, .other, some (.d (.raw .nilFunc)), false⟩,
   some ⟨1, 8, .other, some (.d (.raw .nilFunc)), false⟩,
   some ⟨18, 144, .arr 18 3, some (.agg [.d (.int .i64 0), .d (.int .i64 0), .d (.int .i64 0), .d (.int .i64 0), .d (.int .i64 0), .d (.int .i64 0), .d (.int .i64 0), .d (.int .i64 0), .d (.int .i64 0), .d (.int .i64 0), .d (.int .i64 0), .d (.int .i64 0), .d (.int .i64 0), .d (.int .i64 0), .d (.int .i64 0), .d (.int .i64 0), .d (.int .i64 0), .d (.int .i64 0)]), false⟩,
   some ⟨1, 8, .int .i64, some (.d (.int .i64 0)), false⟩,
   some ⟨1, 8, .other, some (.d (.raw .nilFunc)), false⟩,
   some ⟨1, 8, .other, some (.d (.raw .nilFunc)), false⟩,
   some ⟨1, 24, .slice 9, some (.fsl []), false⟩,
   some ⟨1, 8, .other, some (.d (.raw .nilFunc)), false⟩,
   some ⟨1, 8, .other, some (.d (.raw .nilFunc)), false⟩,
   some ⟨1, 8, .other, some (.d (.raw .nilFunc)), false⟩,
   some ⟨4, 40, .struct [(0, 17), (1, 17), (2, 17), (3, 9)], some (.agg [.d (.raw (.pointer none)), .d (.raw (.pointer none)), .d (.raw (.pointer none)), .d (.str [])]), false⟩,
   some ⟨4, 40, .struct [(0, 17), (1, 17), (2, 17), (3, 9)], some (.agg [.d (.raw (.pointer none)), .d (.raw (.pointer none)), .d (.raw (.pointer none)), .d (.str [])]), false⟩,
   some ⟨0, 0, .arr 0 16, some (.agg []), false⟩,
   some ⟨0, 0, .struct [(0, 142)], some (.agg []), false⟩,
   some ⟨0, 0, .struct [(0, 142)], some (.agg []), false⟩,
   some ⟨1, 8, .other, some (.d (.raw .nilFunc)), false⟩,
   some ⟨1, 4, .int .u32, some (.d (.int .u32 0)), false⟩,
   some ⟨1, 1, .int .u8, some (.d (.int .u8 0)), false⟩,
   some ⟨1, 1, .int .u8, some (.d (.int .u8 0)), false⟩,
   some ⟨1, 8, .other, some (.d (.raw .nilFunc)), false⟩,
   some ⟨1, 8, .ptr 5, some (.d (.raw (.pointer none))), false⟩,
   some ⟨1, 4, .int .i32, some (.d (.int .i32 0)), false⟩,
   some ⟨1, 4, .int .i32, some (.d (.int .i32 0)), false⟩,
   some ⟨11, 48, .struct [(0, 12), (1, 12), (2, 146), (3, 147), (4, 5), (5, 5), (6, 148), (7, 149), (8, 150), (9, 151), (10, 152)], some (.agg [.d (.int .u64 0), .d (.int .u64 0), .d (.int .u32 0), .d (.int .u8 0), .d (.int .u8 0), .d (.int .u8 0), .d (.int .u8 0), .d (.raw .nilFunc), .d (.raw (.pointer none)), .d (.int .i32 0), .d (.int .i32 0)]), false⟩,
   some ⟨11, 48, .struct [(0, 12), (1, 12), (2, 146), (3, 147), (4, 5), (5, 5), (6, 148), (7, 149), (8, 150), (9, 151), (10, 152)], some (.agg [.d (.int .u64 0), .d (.int .u64 0), .d (.int .u32 0), .d (.int .u8 0), .d (.int .u8 0), .d (.int .u8 0), .d (.int .u8 0), .d (.raw .nilFunc), .d (.raw (.pointer none)), .d (.int .i32 0), .d (.int .i32 0)]), false⟩,
   some ⟨1, 8, .other, some (.d (.raw (.pointer none))), false⟩]
def tt : TT := fun t => tab.getD t none
theorem tab_eq : (List.range Try.prog.types.size).map (mkTE Try.prog) = tab := by kernel_rfl
theorem tt_ok : TTok Try.prog tt := by
  intro t e h
  unfold tt at h
  rw [← tab_eq, List.getD_eq_getElem?_getD, List.getElem?_map] at h
  cases hr : (List.range Try.prog.types.size)[t]? with
  | none => rw [hr] at h; cases h
  | some k =>
    rw [hr] at h
    obtain ⟨h1, h2⟩ := List.getElem?_eq_some_iff.1 hr
    rw [List.getElem_range] at h2
    subst h2
    exact h
theorem pok : POk Try.prog tt := ⟨tt_ok, by kernel_rfl⟩
end Go.Proofs.Ytlafnhpmhflnaaa.Q

set_option linter.unusedSectionVars false
set_option linter.unnecessarySimpa false
set_option linter.unusedSimpArgs false
namespace Go.Proofs.Ytlafnhpmhflnaaa.Q
open Go.RowKit
/-- A number of 64 bits. -/
def R64 (n : Int) : Prop := -9223372036854775808 ≤ n ∧ n ≤ 9223372036854775807
theorem R64.wf {n : Int} (h : R64 n) : (Lit.int .i64 n).wf = true := by
  unfold R64 at h
  simp [Lit.wf, IntKind.min, IntKind.max, IntKind.bits, IntKind.signed]
  omega
theorem R64.of {n : Int} (h : (Lit.int .i64 n).wf = true) : R64 n := by
  unfold R64
  simp [Lit.wf, IntKind.min, IntKind.max, IntKind.bits, IntKind.signed] at h
  omega
def fit (n : Int) : Bool := decide (-9223372036854775808 ≤ n ∧ n ≤ 9223372036854775807)
theorem fit_iff {n : Int} : fit n = true ↔ R64 n := by unfold fit R64; exact decide_eq_true_iff
theorem fit_not {n : Int} : fit n = false ↔ ¬ R64 n := by unfold fit R64; exact decide_eq_false_iff_not
/-- A number and whether it is there. -/
def told (n : Int) : Int × Bool := if fit n then (n, true) else (0, false)
def addS (a b : Int) : Int × Bool := told (a + b)
def subS (a b : Int) : Int × Bool := told (a - b)
def mulS (a b : Int) : Int × Bool := told (a * b)
def negS (a : Int) : Int × Bool := told (-a)
def divS (a b : Int) : Int := if b ≤ 0 then 0 else a / b
def gcdL (l : List Int) : Int := if l.all (fun n => decide (n ≠ -9223372036854775808)) then (l.foldl (fun g n => Nat.gcd g n.natAbs) 0 : Nat) else 0
theorem told_yes {n : Int} (h : R64 n) : told n = (n, true) := by unfold told; rw [if_pos (fit_iff.2 h)]
theorem told_no {n : Int} (h : ¬ R64 n) : told n = (0, false) := by unfold told; rw [if_neg (by rw [fit_iff]; exact h)]
theorem told_r (n : Int) : R64 (told n).1 := by
  unfold told; split
  · exact fit_iff.1 ‹_›
  · unfold R64; omega
theorem told_true {n : Int} (h : (told n).2 = true) : R64 n ∧ (told n).1 = n := by
  unfold told at h ⊢; split at h
  · rw [if_pos ‹_›]; exact ⟨fit_iff.1 ‹_›, rfl⟩
  · cases h
theorem wrap_fit {n : Int} (h : R64 n) : wrap64 n = n := by unfold R64 at h; unfold wrap64; omega
theorem wrap_r (n : Int) : R64 (wrap64 n) := by unfold R64 wrap64; omega
theorem wrap_not {n : Int} (h : ¬ R64 n) : wrap64 n ≠ n := fun e => h (e ▸ wrap_r n)

theorem wrap_i64_toNat (v : BitVec 64) : IntKind.i64.wrap (v.toNat : Int) = v.toInt := by
  rw [IntKind.wrap_i64, BitVec.toInt_eq_toNat_cond]
  have := v.isLt
  split <;> omega
theorem ofInt_toInt {x : Int} (h : R64 x) : (BitVec.ofInt 64 x).toInt = x := by
  unfold R64 at h
  rw [BitVec.toInt_ofInt]
  simp only [Int.bmod]
  split <;> omega
theorem bits_and_neg {x y : Int} (hx : R64 x) (hy : R64 y) : bits .and .i64 x y < 0 ↔ x < 0 ∧ y < 0 := by
  have e : bits .and .i64 x y = (BitVec.ofInt 64 x &&& BitVec.ofInt 64 y).toInt := wrap_i64_toNat _
  have m := @BitVec.msb_eq_toInt 64 (BitVec.ofInt 64 x &&& BitVec.ofInt 64 y)
  rw [BitVec.msb_and, BitVec.msb_eq_toInt, BitVec.msb_eq_toInt, ofInt_toInt hx, ofInt_toInt hy] at m
  rw [e, ← decide_eq_true_iff (p := _ < 0), ← m]
  simp
theorem bits_xor_neg {x y : Int} (hx : R64 x) (hy : R64 y) : bits .xor .i64 x y < 0 ↔ ¬ (x < 0 ↔ y < 0) := by
  have e : bits .xor .i64 x y = (BitVec.ofInt 64 x ^^^ BitVec.ofInt 64 y).toInt := wrap_i64_toNat _
  have m := @BitVec.msb_eq_toInt 64 (BitVec.ofInt 64 x ^^^ BitVec.ofInt 64 y)
  rw [BitVec.msb_xor, BitVec.msb_eq_toInt, BitVec.msb_eq_toInt, ofInt_toInt hx, ofInt_toInt hy] at m
  rw [e, ← decide_eq_true_iff (p := _ < 0), ← m]
  by_cases h1 : x < 0 <;> by_cases h2 : y < 0 <;> simp [h1, h2]
theorem bits_xor_r (x y : Int) : R64 (bits .xor .i64 x y) := by
  have e : bits .xor .i64 x y = (BitVec.ofInt 64 x ^^^ BitVec.ofInt 64 y).toInt := wrap_i64_toNat _
  rw [e]
  have h1 := BitVec.le_toInt (BitVec.ofInt 64 x ^^^ BitVec.ofInt 64 y)
  have h2 := BitVec.toInt_lt (x := BitVec.ofInt 64 x ^^^ BitVec.ofInt 64 y)
  unfold R64
  omega
theorem add_over {a b : Int} (ha : R64 a) (hb : R64 b) : bits .and .i64 (bits .xor .i64 a (wrap64 (a + b))) (bits .xor .i64 b (wrap64 (a + b))) < 0 ↔ ¬ R64 (a + b) := by
  rw [bits_and_neg (bits_xor_r _ _) (bits_xor_r _ _), bits_xor_neg ha (wrap_r _), bits_xor_neg hb (wrap_r _)]
  unfold R64 wrap64 at *
  omega
theorem sub_over {a b : Int} (ha : R64 a) (hb : R64 b) : bits .and .i64 (bits .xor .i64 a b) (bits .xor .i64 a (wrap64 (a - b))) < 0 ↔ ¬ R64 (a - b) := by
  rw [bits_and_neg (bits_xor_r _ _) (bits_xor_r _ _), bits_xor_neg ha hb, bits_xor_neg ha (wrap_r _)]
  unfold R64 wrap64 at *
  omega
/-- A number of 64 bits without a sign. -/
def U64 (n : Int) : Prop := 0 ≤ n ∧ n ≤ 18446744073709551615
theorem wrap_u (n : Int) : IntKind.u64.wrap n = n % 18446744073709551616 := IntKind.wrap_u64 n
theorem abs_u {a : Int} (ha : R64 a) : U64 (a.natAbs : Int) ∧ (a.natAbs : Int) ≤ 9223372036854775808 := by unfold R64 at ha; unfold U64; omega
theorem size_neg {a : Int} (ha : R64 a) (h : a < 0) : IntKind.u64.wrap (-IntKind.u64.wrap a) = a.natAbs := by rw [wrap_u, wrap_u]; unfold R64 at ha; omega
theorem size_pos {a : Int} (ha : R64 a) (h : ¬ a < 0) : IntKind.u64.wrap a = a.natAbs := by rw [wrap_u]; unfold R64 at ha; omega
theorem mul_hi (x y : Int) (hx : U64 x) (hy : U64 y) :
    (((x / 4294967296 * (y / 4294967296)) % 18446744073709551616 +
      (((x / 4294967296 * (y % 4294967296)) % 18446744073709551616 + ((x % 4294967296 * (y % 4294967296)) % 18446744073709551616) / 4294967296) % 18446744073709551616) / 4294967296) % 18446744073709551616 +
      (((((x / 4294967296 * (y % 4294967296)) % 18446744073709551616 + ((x % 4294967296 * (y % 4294967296)) % 18446744073709551616) / 4294967296) % 18446744073709551616) % 4294967296 +
        (x % 4294967296 * (y / 4294967296)) % 18446744073709551616) % 18446744073709551616) / 4294967296) % 18446744073709551616 = x * y / 18446744073709551616 := by
  unfold U64 at hx hy
  exact mul64_arith x y (by omega) (by omega) (by omega) (by omega)
theorem abs_mul (a b : Int) : ((a.natAbs : Int) * (b.natAbs : Int)) = ((a * b).natAbs : Int) := by rw [Int.natAbs_mul]; simp
/-- The product, told by its size and its sign. -/
theorem mul_parts {a b : Int} (ha : R64 a) (hb : R64 b) (neg : Bool) (hn : neg = ((decide (a < 0)) != (decide (b < 0)))) :
    ∃ m : Nat, ((a.natAbs : Int) * (b.natAbs : Int)) = (m : Int) ∧ (a * b = (m : Int) ∨ a * b = -(m : Int)) ∧ (neg = true → a * b = -(m : Int)) ∧ (neg = false → a * b = (m : Int)) := by
  refine ⟨a.natAbs * b.natAbs, by simp, ?_, ?_, ?_⟩
  · rcases Int.natAbs_eq (a * b) with h | h
    · left; rw [h, Int.natAbs_mul]
    · right; rw [h, Int.natAbs_mul]
  · intro h
    rw [hn] at h
    rcases Int.lt_or_le a 0 with h1 | h1 <;> rcases Int.lt_or_le b 0 with h2 | h2
    · simp [h1, h2] at h
    · obtain ⟨p, rfl⟩ : ∃ p : Nat, a = -(p : Int) := ⟨a.natAbs, by omega⟩
      obtain ⟨q, rfl⟩ := Int.eq_ofNat_of_zero_le h2
      simp [Int.neg_mul]
    · obtain ⟨p, rfl⟩ := Int.eq_ofNat_of_zero_le h1
      obtain ⟨q, rfl⟩ : ∃ q : Nat, b = -(q : Int) := ⟨b.natAbs, by omega⟩
      simp [Int.mul_neg]
    · simp [Int.not_lt.2 h1, Int.not_lt.2 h2] at h
  · intro h
    rw [hn] at h
    rcases Int.lt_or_le a 0 with h1 | h1 <;> rcases Int.lt_or_le b 0 with h2 | h2
    · obtain ⟨p, rfl⟩ : ∃ p : Nat, a = -(p : Int) := ⟨a.natAbs, by omega⟩
      obtain ⟨q, rfl⟩ : ∃ q : Nat, b = -(q : Int) := ⟨b.natAbs, by omega⟩
      rw [Int.neg_mul_neg]; simp
    · simp [h1, Int.not_lt.2 h2] at h
    · simp [h2, Int.not_lt.2 h1] at h
    · obtain ⟨p, rfl⟩ := Int.eq_ofNat_of_zero_le h1
      obtain ⟨q, rfl⟩ := Int.eq_ofNat_of_zero_le h2
      simp
theorem ediv_of {a b k : Int} (hb : 0 < b) (h1 : k * b ≤ a) (h2 : a < (k + 1) * b) : a / b = k := by
  have h3 := (Int.le_ediv_iff_mul_le hb).2 h1
  have h4 := (Int.ediv_lt_iff_lt_mul hb).2 h2
  omega
/-- Go's quotient, brought down. -/
theorem div_down {a b : Int} (ha : R64 a) (hb : 0 < b) : R64 (a.tdiv b) ∧ R64 (a.tdiv b * b) ∧ (a < 0 → a.tdiv b * b ≠ a → a / b = a.tdiv b - 1) ∧ ((¬ a < 0 ∨ a.tdiv b * b = a) → a / b = a.tdiv b) ∧ R64 (a / b) := by
  rcases Int.lt_or_le a 0 with h | h
  · obtain ⟨p, rfl⟩ : ∃ p : Nat, a = -(p : Int) := ⟨a.natAbs, by omega⟩
    have e : (-(p : Int)).tdiv b = -((p : Int) / b) := by rw [Int.neg_tdiv, Int.tdiv_eq_ediv_of_nonneg (by omega)]
    rw [e]
    have hq0 : 0 ≤ (p : Int) / b := Int.ediv_nonneg (by omega) (by omega)
    have hq1 : (p : Int) / b * b ≤ p := Int.ediv_mul_le _ (by omega)
    have hq2 : (p : Int) < ((p : Int) / b + 1) * b := Int.lt_ediv_add_one_mul_self _ hb
    have hq3 : (p : Int) / b ≤ p := Int.ediv_le_self _ (by omega)
    generalize (p : Int) / b = q at *
    have e2 : -q * b = -(q * b) := Int.neg_mul _ _
    have e3 : (q + 1) * b = q * b + b := by rw [Int.add_mul, Int.one_mul]
    have k0 : 0 ≤ q * b := Int.mul_nonneg hq0 (by omega)
    have c1 : -q * b ≠ -(p : Int) → -(p : Int) / b = -q - 1 := by
      intro hne
      refine ediv_of hb ?_ ?_
      · have : (-q - 1) * b = -(q * b) - b := by rw [Int.sub_mul, Int.neg_mul, Int.one_mul]
        omega
      · have : (-q - 1 + 1) * b = -(q * b) := by rw [Int.sub_add_cancel, Int.neg_mul]
        omega
    have c2 : -q * b = -(p : Int) → -(p : Int) / b = -q := by
      intro he
      refine ediv_of hb (by omega) ?_
      have : (-q + 1) * b = -(q * b) + b := by rw [Int.add_mul, Int.neg_mul, Int.one_mul]
      omega
    unfold R64 at *
    refine ⟨by omega, by omega, fun _ => c1, fun h => c2 (by rcases h with h | h; omega; exact h), ?_⟩
    by_cases hh : -q * b = -(p : Int)
    · rw [c2 hh]; omega
    · rw [c1 hh]
      by_cases hq : q = p
      · subst hq
        exfalso
        by_cases hb1 : b = 1
        · subst hb1; omega
        · have := Int.mul_le_mul_of_nonneg_left (show 2 ≤ b by omega) (show 0 ≤ (p : Int) by omega)
          have hp : (p : Int) = 0 := by omega
          omega
      · omega
  · rw [Int.tdiv_eq_ediv_of_nonneg h]
    have hq0 : 0 ≤ a / b := Int.ediv_nonneg h (by omega)
    have hq1 : a / b * b ≤ a := Int.ediv_mul_le _ (by omega)
    have hq3 : a / b ≤ a := Int.ediv_le_self _ h
    have k0 : 0 ≤ a / b * b := Int.mul_nonneg hq0 (by omega)
    generalize a / b * b = m at *
    unfold R64 at *
    refine ⟨by omega, by omega, fun h => by omega, fun _ => rfl, by omega⟩
theorem low_b {z : Int} (h0 : 0 ≤ z) (h1 : z < 18446744073709551616) : bits .and .u64 z 4294967295 = z % 4294967296 := and_low32 z h0 h1
theorem mul_yes {a b : Int} {m : Nat} (hm : (a.natAbs : Int) * (b.natAbs : Int) = m) (ha : R64 a) (hb : R64 b) :
    (m : Int) / 18446744073709551616 = 0 ↔ (m : Int) ≤ 18446744073709551615 := by omega
theorem tmod_neg {a b : Int} (hb : 0 < b) : a.tmod b < 0 ↔ a < 0 ∧ a.tdiv b * b ≠ a := by
  have h1 := Int.tmod_add_tdiv_mul a b
  have h2 : a < 0 → a.tmod b ≤ 0 := fun h => by
    have := Int.tmod_nonneg (a := -a) b (by omega)
    rw [Int.neg_tmod] at this
    omega
  have h3 : 0 ≤ a → 0 ≤ a.tmod b := fun h => Int.tmod_nonneg _ h
  omega
theorem mul_split {u v : Int} (hu : 0 ≤ u ∧ u ≤ 9223372036854775808) (hv : 0 ≤ v ∧ v ≤ 9223372036854775808) :
    ∃ uh ul vh vl p p' q r : Int, u / 4294967296 = uh ∧ u % 4294967296 = ul ∧ v / 4294967296 = vh ∧ v % 4294967296 = vl ∧ uh * vl = p ∧ vh * ul = p' ∧ ul * vl = q ∧ u * v = r * 18446744073709551616 + (p + p') * 4294967296 + q ∧
      0 ≤ p ∧ p ≤ 9223372036854775808 ∧ 0 ≤ p' ∧ p' ≤ 9223372036854775808 ∧ 0 ≤ q ∧ q < 18446744073709551616 ∧ (uh = 0 → r = 0 ∧ p = 0) ∧ (vh = 0 → r = 0 ∧ p' = 0) ∧ (¬ uh = 0 → ¬ vh = 0 → 1 ≤ r) := by
  refine ⟨u / 4294967296, u % 4294967296, v / 4294967296, v % 4294967296, _, _, _, (u / 4294967296) * (v / 4294967296), rfl, rfl, rfl, rfl, rfl, rfl, rfl, ?_, ?_⟩
  · have e1 : u = u / 4294967296 * 4294967296 + u % 4294967296 := by omega
    have e2 : v = v / 4294967296 * 4294967296 + v % 4294967296 := by omega
    generalize u / 4294967296 = a at *
    generalize u % 4294967296 = b at *
    generalize v / 4294967296 = c at *
    generalize v % 4294967296 = d at *
    subst e1; subst e2
    rw [Int.add_mul, Int.mul_add, Int.mul_add]
    have f1 : a * 4294967296 * (c * 4294967296) = a * c * 18446744073709551616 := by rw [Int.mul_assoc, Int.mul_left_comm 4294967296 c, ← Int.mul_assoc]; rfl
    have f2 : a * 4294967296 * d = a * d * 4294967296 := by rw [Int.mul_assoc, Int.mul_comm 4294967296 d, ← Int.mul_assoc]
    have f3 : b * (c * 4294967296) = c * b * 4294967296 := by rw [← Int.mul_assoc, Int.mul_comm b c]
    rw [f1, f2, f3]; omega
  · have a0 : 0 ≤ u / 4294967296 ∧ u / 4294967296 ≤ 2147483648 := by omega
    have b0 : 0 ≤ u % 4294967296 ∧ u % 4294967296 ≤ 4294967295 := by omega
    have c0 : 0 ≤ v / 4294967296 ∧ v / 4294967296 ≤ 2147483648 := by omega
    have d0 : 0 ≤ v % 4294967296 ∧ v % 4294967296 ≤ 4294967295 := by omega
    generalize u / 4294967296 = a at *
    generalize u % 4294967296 = b at *
    generalize v / 4294967296 = c at *
    generalize v % 4294967296 = d at *
    have g1 := Int.mul_le_mul a0.2 d0.2 d0.1 (by omega)
    have g2 := Int.mul_le_mul c0.2 b0.2 b0.1 (by omega)
    have g3 := Int.mul_le_mul b0.2 d0.2 d0.1 (by omega)
    have h1 := Int.mul_nonneg a0.1 d0.1
    have h2 := Int.mul_nonneg c0.1 b0.1
    have h3 := Int.mul_nonneg b0.1 d0.1
    refine ⟨h1, by omega, h2, by omega, h3, by omega, ?_, ?_, ?_⟩
    · rintro rfl; simp
    · rintro rfl; simp
    · intro n1 n2
      have := Int.mul_le_mul (show (1 : Int) ≤ a by omega) (show (1 : Int) ≤ c by omega) (by omega) a0.1
      omega
def notMin (n : Int) : Bool := decide (n ≠ -9223372036854775808)
def gcdF (l : List Int) : Nat := l.foldl (fun g n => Nat.gcd g n.natAbs) 0
theorem gcdL_yes {l : List Int} (h : l.all notMin = true) : gcdL l = (gcdF l : Nat) := by unfold gcdL; exact if_pos h
theorem gcdL_no {l : List Int} {k : Nat} (hk : k < l.length) (h : l[k] = -9223372036854775808) : gcdL l = 0 := by
  unfold gcdL
  refine if_neg fun ha => ?_
  have := List.all_eq_true.1 ha l[k] (List.getElem_mem hk)
  simp [h] at this
theorem gcd_fold_le (l : List Int) (h : l.all notMin = true) (hr : ∀ n ∈ l, R64 n) : ∀ g : Nat, (g : Int) ≤ 9223372036854775807 → ((l.foldl (fun g n => Nat.gcd g n.natAbs) g : Nat) : Int) ≤ 9223372036854775807 := by
  induction l with
  | nil => exact fun g hg => hg
  | cons n l ih =>
    intro g hg
    simp only [List.all_cons, Bool.and_eq_true] at h
    refine ih h.2 (fun m hm => hr m (List.mem_cons_of_mem _ hm)) _ ?_
    have h1 := hr n List.mem_cons_self
    have h2 : n ≠ -9223372036854775808 := by simpa [notMin] using h.1
    unfold R64 at h1
    show ((Nat.gcd g n.natAbs : Nat) : Int) ≤ _
    rcases Nat.eq_zero_or_pos n.natAbs with h0 | h0
    · rw [h0, Nat.gcd_zero_right]; exact hg
    · have := Nat.gcd_le_right g h0
      omega
theorem take_snoc {α : Type} (l : List α) (k : Nat) (h : k < l.length) : l.take (k + 1) = l.take k ++ [l[k]] := List.take_succ_eq_append_getElem h
theorem gcdF_snoc (l : List Int) (k : Nat) (h : k < l.length) : gcdF (l.take (k + 1)) = Nat.gcd (gcdF (l.take k)) l[k].natAbs := by
  rw [take_snoc l k h]; unfold gcdF; rw [List.foldl_append]; rfl
theorem all_take {α : Type} {l : List α} {p : α → Bool} (h : l.all p = true) (k : Nat) : (l.take k).all p = true := by
  rw [List.all_eq_true] at *; exact fun x hx => h x (List.mem_of_mem_take hx)
theorem gcdF_r (l : List Int) (h : l.all notMin = true) (hr : ∀ n ∈ l, R64 n) (k : Nat) : R64 (gcdF (l.take k) : Nat) := by
  have := gcd_fold_le (l.take k) (all_take h k) (fun n hn => hr n (List.mem_of_mem_take hn)) 0 (by omega)
  unfold R64 gcdF
  omega
end Go.Proofs.Ytlafnhpmhflnaaa.Q

namespace Go.Proofs.Ytlafnhpmhflnaaa.Q
open Go.RowKit
variable [Amb]
theorem PIdx.map' {α β : Type} {l : List α} {f : α → β} {z : Int} {i : Nat} {x : α} {K : β → Prop} (hz : z = i) (h : l[i]? = some x) (k : K (f x)) : PIdx (l.map f) z K := by subst hz; exact PIdx.map h k
theorem PIdx.at' {α : Type} {l : List α} {z : Int} {i : Nat} {x : α} {K : α → Prop} (hz : z = i) (h : l[i]? = some x) (k : K x) : PIdx l z K := by subst hz; exact PIdx.at h k
theorem wrap_nat (k : Nat) (h : k < 4611686018427387904) : IntKind.i64.wrap ((k : Int) + 1) = ((k + 1 : Nat) : Int) := by
  rw [IntKind.wrap_i64]; omega
theorem wrap_in {x : Int} (h : R64 x) : IntKind.i64.wrap x = x := by unfold R64 at h; rw [IntKind.wrap_i64]; omega
theorem get_at {α : Type} {l : List α} {k : Nat} (h : k < l.length) : l[k]? = some l[k] := List.getElem?_eq_getElem h
/-- The function's one result; nothing lent. -/
theorem fin1 {r r' : V} (h : r = r') : r = r' ∧ ([] : List Ob) = [] := ⟨h, rfl⟩
theorem dint {k : IntKind} {a b : Int} (h : a = b) : V.d (.int k a) = V.d (.int k b) := by rw [h]
theorem sint {k : IntKind} {a b : Int} (h : a = b) : some (V.d (.int k a)) = some (V.d (.int k b)) := by rw [h]
theorem sv {x y : V} (h : x = y) : some x = some y := by rw [h]
theorem dbool {a b : Bool} (h : a = b) : V.d (.bool a) = V.d (.bool b) := by rw [h]
theorem tup2 {a b c d : V} (h : a = c) (k : b = d) : V.tup [a, b] = V.tup [c, d] := by rw [h, k]
theorem tup3 {a b c d e f : V} (h : a = d) (k : b = e) (l : c = f) : V.tup [a, b, c] = V.tup [d, e, f] := by rw [h, k, l]
theorem lk_some {ρ : Env} {t : Nat} {x y : V} (h : lk ρ t = some x) (e : x = y) : lk ρ t = some y := by rw [h, e]
/-- A number and whether it is there. -/
def ib (p : Int × Bool) : V := .tup [.d (.int .i64 p.1), .d (.bool p.2)]
theorem ib_yes {n : Int} (h : R64 n) : ib (told n) = .tup [.d (.int .i64 n), .d (.bool true)] := by rw [told_yes h]; rfl
theorem ib_no {n : Int} (h : ¬ R64 n) : ib (told n) = .tup [.d (.int .i64 0), .d (.bool false)] := by rw [told_no h]; rfl
/-- A number. -/
abbrev iv (n : Int) : V := .d (.int .i64 n)
end Go.Proofs.Ytlafnhpmhflnaaa.Q

namespace Go.Proofs.Ytlafnhpmhflnaaa.Q
open Go.RowKit
variable [Amb]
theorem wrap_w (x : Int) : IntKind.i64.wrap x = wrap64 x := by rw [IntKind.wrap_i64]; unfold wrap64; omega
abbrev uv (n : Int) : V := .d (.int .u64 n)
theorem numAdd_c (a b : Int) (ha : R64 a) (hb : R64 b) : PFun Try.prog 39 [iv a, iv b] [] (ib (addS a b)) [] := by
  refine fn_sem pok 19 0 Try.func39 (by kernel_rfl) rfl rfl rfl rfl ?_
  refine SWp.go pok (by kernel_rfl) ?_
  have hov := add_over ha hb
  refine brP_split (fun h => ?_) (fun h => ?_)
  · rw [wrap_w] at h
    exact fin1 (ib_no (hov.1 (by simpa using h))).symm
  · rw [wrap_w] at h
    have hr : R64 (a + b) := Classical.not_not.1 (fun hn => by have := hov.2 hn; simp at h; omega)
    refine fin1 ?_
    show V.tup [_, _] = _
    rw [show addS a b = told (a + b) from rfl, ib_yes hr, wrap_in hr]
theorem numSub_c (a b : Int) (ha : R64 a) (hb : R64 b) : PFun Try.prog 94 [iv a, iv b] [] (ib (subS a b)) [] := by
  refine fn_sem pok 19 0 Try.func94 (by kernel_rfl) rfl rfl rfl rfl ?_
  refine SWp.go pok (by kernel_rfl) ?_
  have hov := sub_over ha hb
  refine brP_split (fun h => ?_) (fun h => ?_)
  · rw [wrap_w] at h
    exact fin1 (ib_no (hov.1 (by simpa using h))).symm
  · rw [wrap_w] at h
    have hr : R64 (a - b) := Classical.not_not.1 (fun hn => by have := hov.2 hn; simp at h; omega)
    refine fin1 ?_
    show V.tup [_, _] = _
    rw [show subS a b = told (a - b) from rfl, ib_yes hr, wrap_in hr]
theorem numNeg_c (a : Int) (ha : R64 a) : PFun Try.prog 41 [iv a] [] (ib (negS a)) [] := by
  refine fn_sem pok 8 0 Try.func41 (by kernel_rfl) rfl rfl rfl rfl ?_
  refine SWp.go pok (by kernel_rfl) ?_
  refine brP_split (fun h => ?_) (fun h => ?_)
  · have : ¬ R64 (-a) := by unfold R64; simp at h; omega
    exact fin1 (ib_no this).symm
  · have hr : R64 (-a) := by unfold R64 at ha ⊢; simp at h; omega
    refine fin1 ?_
    rw [show negS a = told (-a) from rfl, ib_yes hr]
    show V.tup [.d (.int .i64 (IntKind.i64.wrap (0 - a))), _] = _
    rw [show (0 : Int) - a = -a by omega, wrap_in hr]
theorem numSize_c (a : Int) (ha : R64 a) : PFun Try.prog 62 [iv a] [] (uv a.natAbs) [] := by
  refine fn_sem pok 10 0 Try.func62 (by kernel_rfl) rfl rfl rfl rfl ?_
  refine SWp.go pok (by kernel_rfl) ?_
  refine brP_split (fun h => ?_) (fun h => ?_)
  · exact fin1 (dint (by have := size_neg ha (by simpa using h); rwa [show -IntKind.u64.wrap a = 0 - IntKind.u64.wrap a by omega] at this))
  · exact fin1 (dint (size_pos ha (by simpa using h)))
theorem sh32 : (2 ^ (min (Int.toNat 32) IntKind.u64.bits) : Int) = 4294967296 := by decide
theorem fd32 (x : Int) : x.fdiv 4294967296 = x / 4294967296 := Int.fdiv_eq_ediv_of_nonneg _ (by decide)
theorem mul64_c (a b : Int) (ha : U64 a) (hb : U64 b) : PFun Try.prog 61 [uv a, uv b] [] (.tup [uv (a * b / 18446744073709551616), uv (a * b % 18446744073709551616)]) [] := by
  refine fn_sem pok 51 0 Try.func61 (by kernel_rfl) rfl rfl rfl rfl ?_
  refine SWp.go pok (by kernel_rfl) ?_
  refine ⟨by decide, ⟨by decide, ⟨by decide, ⟨by decide, ⟨by decide, ?_⟩⟩⟩⟩⟩
  refine fin1 (tup2 (dint ?_) (dint (wrap_u _)))
  have e := mul_hi a b ha hb
  unfold U64 at ha hb
  rw [← e]
  show IntKind.wrap _ (IntKind.wrap _ (IntKind.wrap _ (Int.fdiv _ _ * Int.fdiv _ _) + Int.fdiv _ _) + Int.fdiv _ _) = _
  simp only [wrap_u, sh32, fd32]
  rw [low_b ha.1 (by omega), low_b hb.1 (by omega), low_b (z := _ % 18446744073709551616) (by omega) (by omega)]
theorem numMul_c (a b : Int) (ha : R64 a) (hb : R64 b) : PFun Try.prog 38 [iv a, iv b] [] (ib (mulS a b)) [] := by
  obtain ⟨m, hm, hm0, hy, hn⟩ : ∃ m : Int, (a.natAbs : Int) * (b.natAbs : Int) = m ∧ 0 ≤ m ∧ ((decide (a < 0) != decide (b < 0)) = true → a * b = -m) ∧ ((decide (a < 0) != decide (b < 0)) = false → a * b = m) := by
    obtain ⟨m, hm, _, hy, hn⟩ := mul_parts ha hb _ rfl
    exact ⟨m, hm, by omega, hy, hn⟩
  have k3 := mul64_c _ _ (abs_u ha).1 (abs_u hb).1
  rw [hm] at k3
  have e1 : IntKind.i64.wrap (IntKind.u64.wrap (-m)) = IntKind.i64.wrap (-m) := by rw [wrap_u, IntKind.wrap_i64, IntKind.wrap_i64]; omega
  have hno : ¬ R64 (a * b) → ib (mulS a b) = .tup [iv 0, .d (.bool false)] := fun h => ib_no h
  have hyes : R64 (a * b) → ib (mulS a b) = .tup [iv (a * b), .d (.bool true)] := fun h => ib_yes h
  refine fn_sem pok 44 0 Try.func38 (by kernel_rfl) rfl rfl rfl rfl ?_
  refine SWp.go pok (by kernel_rfl) ?_
  refine PFun.call (numSize_c a ha) ?_
  refine PFun.call (numSize_c b hb) ?_
  refine PFun.call k3 ?_
  have no : ¬ R64 (a * b) → ∀ H, (V.tup [iv 0, .d (.bool false)] = ib (mulS a b) ∧ ([] : List Ob) = H) = (True ∧ [] = H) := fun h H => by rw [hno h]; simp
  refine brP_split (fun ha' => ?_) (fun ha' => ?_)
  all_goals refine brP_split (fun hb' => ?_) (fun hb' => ?_)
  all_goals rw [ha', hb'] at hy hn
  · have e := hn rfl
    refine brP_split (fun h1 => ?_) (fun h1 => ?_)
    · exact fin1 (hno (by rw [e]; unfold R64; simp at h1; omega)).symm
    · refine brP_split (fun h2 => ?_) (fun h2 => ?_)
      · exact fin1 (hno (by rw [e]; unfold R64; simp at h1 h2; omega)).symm
      · refine brP_split (fun h3 => ?_) (fun h3 => ?_)
        · exact fin1 (hno (by rw [e]; unfold R64; simp at h1 h2 h3; omega)).symm
        · have hr : R64 m := by unfold R64; simp at h1 h2 h3; omega
          refine fin1 ?_
          rw [hyes (by rw [e]; exact hr), e]
          exact tup2 (dint (by rw [show m % 18446744073709551616 = m by unfold R64 at hr; omega]; exact wrap_in hr)) rfl
  · have e := hy rfl
    refine brP_split (fun h1 => ?_) (fun h1 => ?_)
    · exact fin1 (hno (by rw [e]; unfold R64; simp at h1; omega)).symm
    · refine brP_split (fun h2 => ?_) (fun h2 => ?_)
      · exact fin1 (hno (by rw [e]; unfold R64; simp at h1 h2; omega)).symm
      · have hr : R64 (-m) := by unfold R64; simp at h1 h2; omega
        refine brP_split (fun h3 => ?_) (fun h3 => ?_)
        all_goals
          refine fin1 ?_
          rw [hyes (by rw [e]; exact hr), e]
          exact tup2 (dint (by rw [show m % 18446744073709551616 = m by unfold R64 at hr; omega, show 0 - m = -m by omega, e1]; exact wrap_in hr)) rfl
  · have e := hy rfl
    refine brP_split (fun h1 => ?_) (fun h1 => ?_)
    · exact fin1 (hno (by rw [e]; unfold R64; simp at h1; omega)).symm
    · refine brP_split (fun h2 => ?_) (fun h2 => ?_)
      · exact fin1 (hno (by rw [e]; unfold R64; simp at h1 h2; omega)).symm
      · have hr : R64 (-m) := by unfold R64; simp at h1 h2; omega
        refine brP_split (fun h3 => ?_) (fun h3 => ?_)
        all_goals
          refine fin1 ?_
          rw [hyes (by rw [e]; exact hr), e]
          exact tup2 (dint (by rw [show m % 18446744073709551616 = m by unfold R64 at hr; omega, show 0 - m = -m by omega, e1]; exact wrap_in hr)) rfl
  · have e := hn rfl
    refine brP_split (fun h1 => ?_) (fun h1 => ?_)
    · exact fin1 (hno (by rw [e]; unfold R64; simp at h1; omega)).symm
    · refine brP_split (fun h2 => ?_) (fun h2 => ?_)
      · exact fin1 (hno (by rw [e]; unfold R64; simp at h1 h2; omega)).symm
      · refine brP_split (fun h3 => ?_) (fun h3 => ?_)
        · exact fin1 (hno (by rw [e]; unfold R64; simp at h1 h2 h3; omega)).symm
        · have hr : R64 m := by unfold R64; simp at h1 h2 h3; omega
          refine fin1 ?_
          rw [hyes (by rw [e]; exact hr), e]
          exact tup2 (dint (by rw [show m % 18446744073709551616 = m by unfold R64 at hr; omega]; exact wrap_in hr)) rfl
theorem numDiv_c (a b : Int) (ha : R64 a) : PFun Try.prog 42 [iv a, iv b] [] (iv (divS a b)) [] := by
  refine fn_sem pok 23 0 Try.func42 (by kernel_rfl) rfl rfl rfl rfl ?_
  refine SWp.go pok (by kernel_rfl) ?_
  refine brP_split (fun h => ?_) (fun h => ?_)
  · exact fin1 (dint (if_pos (by simpa using h)).symm)
  · have hb : 0 < b := by simpa using h
    have hd : divS a b = a / b := if_neg (by omega)
    obtain ⟨r1, r2, d1, d2, r3⟩ := div_down ha hb
    refine ⟨by omega, ?_⟩
    refine brP_split (fun h1 => ?_) (fun h1 => ?_)
    · refine brP_split (fun h2 => ?_) (fun h2 => ?_)
      · rw [wrap_in r1, wrap_in r2] at h2
        refine fin1 (dint ?_)
        rw [hd, d1 (by simpa using h1) (by simpa using h2), wrap_in r1, wrap_in]
        rw [← d1 (by simpa using h1) (by simpa using h2)]; exact r3
      · rw [wrap_in r1, wrap_in r2] at h2
        refine fin1 (dint ?_)
        rw [hd, d2 (.inr (by simpa using h2)), wrap_in r1]
    · refine fin1 (dint ?_)
      rw [hd, d2 (.inl (by simpa using h1)), wrap_in r1]
theorem refNeg_c (a : Int) (ha : R64 a) : PFun Try.prog 44 [iv a] [] (ib (negS a)) [] := by
  refine fn_sem pok 8 0 Try.func44 (by kernel_rfl) rfl rfl rfl rfl ?_
  refine SWp.go pok (by kernel_rfl) ?_
  refine brP_split (fun h => ?_) (fun h => ?_)
  · have : ¬ R64 (-a) := by unfold R64; simp at h; omega
    exact fin1 (ib_no this).symm
  · have hr : R64 (-a) := by unfold R64 at ha ⊢; simp at h; omega
    refine fin1 ?_
    rw [show negS a = told (-a) from rfl, ib_yes hr]
    show V.tup [.d (.int .i64 (IntKind.i64.wrap (0 - a))), _] = _
    rw [show (0 : Int) - a = -a by omega, wrap_in hr]
theorem refAdd_c (a b : Int) (ha : R64 a) (hb : R64 b) : PFun Try.prog 30 [iv a, iv b] [] (ib (addS a b)) [] := by
  have W1 : 0 < b → IntKind.i64.wrap (9223372036854775807 - b) = 9223372036854775807 - b := fun h => wrap_in (by unfold R64 at *; omega)
  have W2 : b < 0 → IntKind.i64.wrap (-9223372036854775808 - b) = -9223372036854775808 - b := fun h => wrap_in (by unfold R64 at *; omega)
  have no : ¬ R64 (a + b) → ib (addS a b) = .tup [iv 0, .d (.bool false)] := fun h => ib_no h
  have yes : R64 (a + b) → ib (addS a b) = .tup [iv (IntKind.i64.wrap (a + b)), .d (.bool true)] := fun h => (ib_yes h).trans (by rw [wrap_in h])
  refine fn_sem pok 27 0 Try.func30 (by kernel_rfl) rfl rfl rfl rfl ?_
  refine SWp.go pok (by kernel_rfl) ?_
  refine brP_split (fun h => ?_) (fun h => ?_)
  · have p : 0 < b := by simpa using h
    refine brP_split (fun h2 => ?_) (fun h2 => ?_)
    · rw [W1 p] at h2
      exact fin1 (no (by unfold R64 at *; simp at h2; omega)).symm
    · rw [W1 p] at h2
      refine brP_split (fun h3 => ?_) (fun h3 => ?_)
      · exfalso; simp at h3; omega
      · exact fin1 (yes (by unfold R64 at *; simp at h2; omega)).symm
  · have p : ¬ 0 < b := by simpa using h
    refine brP_split (fun h3 => ?_) (fun h3 => ?_)
    · have q : b < 0 := by simpa using h3
      refine brP_split (fun h2 => ?_) (fun h2 => ?_)
      · rw [W2 q] at h2
        exact fin1 (no (by unfold R64 at *; simp at h2; omega)).symm
      · rw [W2 q] at h2
        exact fin1 (yes (by unfold R64 at *; simp at h2; omega)).symm
    · exact fin1 (yes (by unfold R64 at *; simp at h3; omega)).symm
theorem refSize_c (a : Int) (ha : R64 a) : PFun Try.prog 51 [iv a] [] (uv a.natAbs) [] := by
  refine fn_sem pok 12 0 Try.func51 (by kernel_rfl) rfl rfl rfl rfl ?_
  refine SWp.go pok (by kernel_rfl) ?_
  refine brP_split (fun h => ?_) (fun h => ?_)
  · refine fin1 (dint ?_)
    show IntKind.wrap _ (IntKind.wrap _ (IntKind.wrap _ (0 - (IntKind.wrap _ _))) + 1) = _
    rw [wrap_u, wrap_u, IntKind.wrap_i64, IntKind.wrap_i64]; unfold R64 at ha; simp at h; omega
  · exact fin1 (dint (size_pos ha (by simpa using h)))
theorem refDiv_c (a b : Int) (ha : R64 a) : PFun Try.prog 45 [iv a, iv b] [] (iv (divS a b)) [] := by
  refine fn_sem pok 18 0 Try.func45 (by kernel_rfl) rfl rfl rfl rfl ?_
  refine SWp.go pok (by kernel_rfl) ?_
  refine brP_split (fun h => ?_) (fun h => ?_)
  · exact fin1 (dint (if_pos (by simpa using h)).symm)
  · have hb : 0 < b := by simpa using h
    have hd : divS a b = a / b := if_neg (by omega)
    obtain ⟨r1, r2, d1, d2, r3⟩ := div_down ha hb
    refine ⟨by omega, ⟨by omega, ?_⟩⟩
    refine brP_split (fun h1 => ?_) (fun h1 => ?_)
    · have hn := (tmod_neg (a := a) hb).1 (by simpa using h1)
      refine fin1 (dint ?_)
      rw [hd, d1 hn.1 hn.2, wrap_in r1, wrap_in]
      rw [← d1 hn.1 hn.2]; exact r3
    · refine fin1 (dint ?_)
      rw [hd, d2 (by have := tmod_neg (a := a) hb; simp at h1; omega), wrap_in r1]
set_option maxHeartbeats 2000000 in
theorem refMul_c (a b : Int) (ha : R64 a) (hb : R64 b) : PFun Try.prog 31 [iv a, iv b] [] (ib (mulS a b)) [] := by
  obtain ⟨m, hm, _, hy, hn⟩ := mul_parts ha hb _ rfl
  have no : ¬ R64 (a * b) → ib (mulS a b) = .tup [iv 0, .d (.bool false)] := fun h => ib_no h
  have yes : R64 (a * b) → ib (mulS a b) = .tup [iv (a * b), .d (.bool true)] := fun h => ib_yes h
  obtain ⟨uh, ul, vh, vl, p, p', q, r, e1, e2, e3, e4, e5, e6, e7, e8, b1, b2, b3, b4, b5, b6, c1, c2, c3⟩ := mul_split (u := (a.natAbs : Int)) (v := (b.natAbs : Int)) (by unfold R64 at ha; omega) (by unfold R64 at hb; omega)
  have hau : U64 (a.natAbs : Int) := (abs_u ha).1
  have hbu : U64 (b.natAbs : Int) := (abs_u hb).1
  unfold U64 at hau hbu
  have l1 : bits .and .u64 (a.natAbs : Int) 4294967295 = ul := (low_b hau.1 (by omega)).trans e2
  have l2 : bits .and .u64 (b.natAbs : Int) 4294967295 = vl := (low_b hbu.1 (by omega)).trans e4
  have l0 : (a.natAbs : Int).fdiv (2 ^ (min (Int.toNat 32) IntKind.u64.bits)) = uh := by rw [sh32, fd32]; exact e1
  have l0' : (b.natAbs : Int).fdiv (2 ^ (min (Int.toNat 32) IntKind.u64.bits)) = vh := by rw [sh32, fd32]; exact e3
  have lmid : IntKind.u64.wrap (IntKind.u64.wrap ((a.natAbs : Int).fdiv (2 ^ (min (Int.toNat 32) IntKind.u64.bits)) * bits .and .u64 (b.natAbs : Int) 4294967295) + IntKind.u64.wrap ((b.natAbs : Int).fdiv (2 ^ (min (Int.toNat 32) IntKind.u64.bits)) * bits .and .u64 (a.natAbs : Int) 4294967295)) = (p + p') % 18446744073709551616 := by
    rw [l0, l0', l1, l2, e5, e6]; simp only [wrap_u]; omega
  have lq : IntKind.u64.wrap (bits .and .u64 (a.natAbs : Int) 4294967295 * bits .and .u64 (b.natAbs : Int) 4294967295) = q := by rw [l1, l2, e7, wrap_u]; omega
  have ln : IntKind.u64.wrap (IntKind.u64.wrap (IntKind.u64.wrap (IntKind.u64.wrap ((a.natAbs : Int).fdiv (2 ^ (min (Int.toNat 32) IntKind.u64.bits)) * bits .and .u64 (b.natAbs : Int) 4294967295) + IntKind.u64.wrap ((b.natAbs : Int).fdiv (2 ^ (min (Int.toNat 32) IntKind.u64.bits)) * bits .and .u64 (a.natAbs : Int) 4294967295)) * 2 ^ (min (Int.toNat 32) IntKind.u64.bits)) + IntKind.u64.wrap (bits .and .u64 (a.natAbs : Int) 4294967295 * bits .and .u64 (b.natAbs : Int) 4294967295)) = IntKind.u64.wrap (IntKind.u64.wrap ((p + p') % 18446744073709551616 * 4294967296) + q) := by rw [lmid, lq, sh32]
  rw [e8] at hm
  refine fn_sem pok 68 0 Try.func31 (by kernel_rfl) rfl rfl rfl rfl ?_
  refine SWp.go pok (by kernel_rfl) ?_
  refine PFun.call (refSize_c a ha) ?_
  refine PFun.call (refSize_c b hb) ?_
  refine ⟨by decide, ⟨by decide, ?_⟩⟩
  refine brP_split (fun ha' => ?_) (fun ha' => ?_)
  all_goals refine brP_split (fun hb' => ?_) (fun hb' => ?_)
  all_goals rw [ha', hb'] at hy hn
  · have e := hn rfl
    refine brP_split (fun h1 => ?_) (fun h1 => ?_)
    rotate_left
    · rw [l0] at h1
      have g1 : uh = 0 := by simpa using h1
      have g2 := c1 g1
      refine brP_split (fun h3 => ?_) (fun h3 => ?_)
      · rw [lmid] at h3
        have h3' : 4294967296 ≤ (p + p') % 18446744073709551616 := by simpa using h3
        exact fin1 (no (by rw [e]; unfold R64; omega)).symm
      · rw [lmid] at h3
        have h3' : (p + p') % 18446744073709551616 < 4294967296 := by simpa using h3
        have hpp : (p + p') % 18446744073709551616 = p + p' := by omega
        rw [hpp] at h3'
        have hn' : IntKind.wrap .u64 (IntKind.wrap .u64 ((p + p') * 4294967296) + q) = (m : Int) % 18446744073709551616 := by rw [wrap_u, wrap_u]; omega
        refine ⟨by decide, ?_⟩
        refine brP_split (fun h4 => ?_) (fun h4 => ?_)
        · rw [ln, hpp, hn', lq] at h4
          exact fin1 (no (by rw [e]; unfold R64; simp at h4; omega)).symm
        · rw [ln, hpp, hn', lq] at h4
          have hmm : (m : Int) % 18446744073709551616 = m := by simp at h4; omega
          refine brP_split (fun h5 => ?_) (fun h5 => ?_)
          · rw [ln, hpp, hn', hmm] at h5
            exact fin1 (no (by rw [e]; unfold R64; simp at h5; omega)).symm
          · rw [ln, hpp, hn', hmm] at h5
            refine fin1 ?_
            have hr : R64 (a * b) := by rw [e]; unfold R64; simp at h5; omega
            rw [yes hr]
            refine tup2 (dint ?_) rfl
            show IntKind.wrap .i64 _ = _
            rw [ln, hpp, hn', hmm, e]
            rw [e] at hr
            exact wrap_in hr
    · rw [l0] at h1
      have g1 : ¬ uh = 0 := by simpa using h1
      refine brP_split (fun h2 => ?_) (fun h2 => ?_)
      · rw [l0'] at h2
        have g2 : ¬ vh = 0 := by simpa using h2
        have := c3 g1 g2
        exact fin1 (no (by rw [e]; unfold R64; omega)).symm
      · rw [l0'] at h2
        have g1 : vh = 0 := by simpa using h2
        have g2 := c2 g1
        refine brP_split (fun h3 => ?_) (fun h3 => ?_)
        · rw [lmid] at h3
          have h3' : 4294967296 ≤ (p + p') % 18446744073709551616 := by simpa using h3
          exact fin1 (no (by rw [e]; unfold R64; omega)).symm
        · rw [lmid] at h3
          have h3' : (p + p') % 18446744073709551616 < 4294967296 := by simpa using h3
          have hpp : (p + p') % 18446744073709551616 = p + p' := by omega
          rw [hpp] at h3'
          have hn' : IntKind.wrap .u64 (IntKind.wrap .u64 ((p + p') * 4294967296) + q) = (m : Int) % 18446744073709551616 := by rw [wrap_u, wrap_u]; omega
          refine ⟨by decide, ?_⟩
          refine brP_split (fun h4 => ?_) (fun h4 => ?_)
          · rw [ln, hpp, hn', lq] at h4
            exact fin1 (no (by rw [e]; unfold R64; simp at h4; omega)).symm
          · rw [ln, hpp, hn', lq] at h4
            have hmm : (m : Int) % 18446744073709551616 = m := by simp at h4; omega
            refine brP_split (fun h5 => ?_) (fun h5 => ?_)
            · rw [ln, hpp, hn', hmm] at h5
              exact fin1 (no (by rw [e]; unfold R64; simp at h5; omega)).symm
            · rw [ln, hpp, hn', hmm] at h5
              refine fin1 ?_
              have hr : R64 (a * b) := by rw [e]; unfold R64; simp at h5; omega
              rw [yes hr]
              refine tup2 (dint ?_) rfl
              show IntKind.wrap .i64 _ = _
              rw [ln, hpp, hn', hmm, e]
              rw [e] at hr
              exact wrap_in hr
  · have e := hy rfl
    refine brP_split (fun h1 => ?_) (fun h1 => ?_)
    rotate_left
    · rw [l0] at h1
      have g1 : uh = 0 := by simpa using h1
      have g2 := c1 g1
      refine brP_split (fun h3 => ?_) (fun h3 => ?_)
      · rw [lmid] at h3
        have h3' : 4294967296 ≤ (p + p') % 18446744073709551616 := by simpa using h3
        exact fin1 (no (by rw [e]; unfold R64; omega)).symm
      · rw [lmid] at h3
        have h3' : (p + p') % 18446744073709551616 < 4294967296 := by simpa using h3
        have hpp : (p + p') % 18446744073709551616 = p + p' := by omega
        rw [hpp] at h3'
        have hn' : IntKind.wrap .u64 (IntKind.wrap .u64 ((p + p') * 4294967296) + q) = (m : Int) % 18446744073709551616 := by rw [wrap_u, wrap_u]; omega
        refine ⟨by decide, ?_⟩
        refine brP_split (fun h4 => ?_) (fun h4 => ?_)
        · rw [ln, hpp, hn', lq] at h4
          exact fin1 (no (by rw [e]; unfold R64; simp at h4; omega)).symm
        · rw [ln, hpp, hn', lq] at h4
          have hmm : (m : Int) % 18446744073709551616 = m := by simp at h4; omega
          refine brP_split (fun h5 => ?_) (fun h5 => ?_)
          · rw [ln, hpp, hn', hmm] at h5
            exact fin1 (no (by rw [e]; unfold R64; simp at h5; omega)).symm
          · rw [ln, hpp, hn', hmm] at h5
            refine fin1 ?_
            have hr : R64 (a * b) := by rw [e]; unfold R64; simp at h5; omega
            rw [yes hr]
            refine tup2 (dint ?_) rfl
            show IntKind.wrap .i64 (IntKind.wrap .u64 (0 - _)) = _
            rw [ln, hpp, hn', hmm, e]
            rw [e] at hr
            rw [wrap_u, IntKind.wrap_i64]; unfold R64 at hr; omega
    · rw [l0] at h1
      have g1 : ¬ uh = 0 := by simpa using h1
      refine brP_split (fun h2 => ?_) (fun h2 => ?_)
      · rw [l0'] at h2
        have g2 : ¬ vh = 0 := by simpa using h2
        have := c3 g1 g2
        exact fin1 (no (by rw [e]; unfold R64; omega)).symm
      · rw [l0'] at h2
        have g1 : vh = 0 := by simpa using h2
        have g2 := c2 g1
        refine brP_split (fun h3 => ?_) (fun h3 => ?_)
        · rw [lmid] at h3
          have h3' : 4294967296 ≤ (p + p') % 18446744073709551616 := by simpa using h3
          exact fin1 (no (by rw [e]; unfold R64; omega)).symm
        · rw [lmid] at h3
          have h3' : (p + p') % 18446744073709551616 < 4294967296 := by simpa using h3
          have hpp : (p + p') % 18446744073709551616 = p + p' := by omega
          rw [hpp] at h3'
          have hn' : IntKind.wrap .u64 (IntKind.wrap .u64 ((p + p') * 4294967296) + q) = (m : Int) % 18446744073709551616 := by rw [wrap_u, wrap_u]; omega
          refine ⟨by decide, ?_⟩
          refine brP_split (fun h4 => ?_) (fun h4 => ?_)
          · rw [ln, hpp, hn', lq] at h4
            exact fin1 (no (by rw [e]; unfold R64; simp at h4; omega)).symm
          · rw [ln, hpp, hn', lq] at h4
            have hmm : (m : Int) % 18446744073709551616 = m := by simp at h4; omega
            refine brP_split (fun h5 => ?_) (fun h5 => ?_)
            · rw [ln, hpp, hn', hmm] at h5
              exact fin1 (no (by rw [e]; unfold R64; simp at h5; omega)).symm
            · rw [ln, hpp, hn', hmm] at h5
              refine fin1 ?_
              have hr : R64 (a * b) := by rw [e]; unfold R64; simp at h5; omega
              rw [yes hr]
              refine tup2 (dint ?_) rfl
              show IntKind.wrap .i64 (IntKind.wrap .u64 (0 - _)) = _
              rw [ln, hpp, hn', hmm, e]
              rw [e] at hr
              rw [wrap_u, IntKind.wrap_i64]; unfold R64 at hr; omega
  · have e := hy rfl
    refine brP_split (fun h1 => ?_) (fun h1 => ?_)
    rotate_left
    · rw [l0] at h1
      have g1 : uh = 0 := by simpa using h1
      have g2 := c1 g1
      refine brP_split (fun h3 => ?_) (fun h3 => ?_)
      · rw [lmid] at h3
        have h3' : 4294967296 ≤ (p + p') % 18446744073709551616 := by simpa using h3
        exact fin1 (no (by rw [e]; unfold R64; omega)).symm
      · rw [lmid] at h3
        have h3' : (p + p') % 18446744073709551616 < 4294967296 := by simpa using h3
        have hpp : (p + p') % 18446744073709551616 = p + p' := by omega
        rw [hpp] at h3'
        have hn' : IntKind.wrap .u64 (IntKind.wrap .u64 ((p + p') * 4294967296) + q) = (m : Int) % 18446744073709551616 := by rw [wrap_u, wrap_u]; omega
        refine ⟨by decide, ?_⟩
        refine brP_split (fun h4 => ?_) (fun h4 => ?_)
        · rw [ln, hpp, hn', lq] at h4
          exact fin1 (no (by rw [e]; unfold R64; simp at h4; omega)).symm
        · rw [ln, hpp, hn', lq] at h4
          have hmm : (m : Int) % 18446744073709551616 = m := by simp at h4; omega
          refine brP_split (fun h5 => ?_) (fun h5 => ?_)
          · rw [ln, hpp, hn', hmm] at h5
            exact fin1 (no (by rw [e]; unfold R64; simp at h5; omega)).symm
          · rw [ln, hpp, hn', hmm] at h5
            refine fin1 ?_
            have hr : R64 (a * b) := by rw [e]; unfold R64; simp at h5; omega
            rw [yes hr]
            refine tup2 (dint ?_) rfl
            show IntKind.wrap .i64 (IntKind.wrap .u64 (0 - _)) = _
            rw [ln, hpp, hn', hmm, e]
            rw [e] at hr
            rw [wrap_u, IntKind.wrap_i64]; unfold R64 at hr; omega
    · rw [l0] at h1
      have g1 : ¬ uh = 0 := by simpa using h1
      refine brP_split (fun h2 => ?_) (fun h2 => ?_)
      · rw [l0'] at h2
        have g2 : ¬ vh = 0 := by simpa using h2
        have := c3 g1 g2
        exact fin1 (no (by rw [e]; unfold R64; omega)).symm
      · rw [l0'] at h2
        have g1 : vh = 0 := by simpa using h2
        have g2 := c2 g1
        refine brP_split (fun h3 => ?_) (fun h3 => ?_)
        · rw [lmid] at h3
          have h3' : 4294967296 ≤ (p + p') % 18446744073709551616 := by simpa using h3
          exact fin1 (no (by rw [e]; unfold R64; omega)).symm
        · rw [lmid] at h3
          have h3' : (p + p') % 18446744073709551616 < 4294967296 := by simpa using h3
          have hpp : (p + p') % 18446744073709551616 = p + p' := by omega
          rw [hpp] at h3'
          have hn' : IntKind.wrap .u64 (IntKind.wrap .u64 ((p + p') * 4294967296) + q) = (m : Int) % 18446744073709551616 := by rw [wrap_u, wrap_u]; omega
          refine ⟨by decide, ?_⟩
          refine brP_split (fun h4 => ?_) (fun h4 => ?_)
          · rw [ln, hpp, hn', lq] at h4
            exact fin1 (no (by rw [e]; unfold R64; simp at h4; omega)).symm
          · rw [ln, hpp, hn', lq] at h4
            have hmm : (m : Int) % 18446744073709551616 = m := by simp at h4; omega
            refine brP_split (fun h5 => ?_) (fun h5 => ?_)
            · rw [ln, hpp, hn', hmm] at h5
              exact fin1 (no (by rw [e]; unfold R64; simp at h5; omega)).symm
            · rw [ln, hpp, hn', hmm] at h5
              refine fin1 ?_
              have hr : R64 (a * b) := by rw [e]; unfold R64; simp at h5; omega
              rw [yes hr]
              refine tup2 (dint ?_) rfl
              show IntKind.wrap .i64 (IntKind.wrap .u64 (0 - _)) = _
              rw [ln, hpp, hn', hmm, e]
              rw [e] at hr
              rw [wrap_u, IntKind.wrap_i64]; unfold R64 at hr; omega
  · have e := hn rfl
    refine brP_split (fun h1 => ?_) (fun h1 => ?_)
    rotate_left
    · rw [l0] at h1
      have g1 : uh = 0 := by simpa using h1
      have g2 := c1 g1
      refine brP_split (fun h3 => ?_) (fun h3 => ?_)
      · rw [lmid] at h3
        have h3' : 4294967296 ≤ (p + p') % 18446744073709551616 := by simpa using h3
        exact fin1 (no (by rw [e]; unfold R64; omega)).symm
      · rw [lmid] at h3
        have h3' : (p + p') % 18446744073709551616 < 4294967296 := by simpa using h3
        have hpp : (p + p') % 18446744073709551616 = p + p' := by omega
        rw [hpp] at h3'
        have hn' : IntKind.wrap .u64 (IntKind.wrap .u64 ((p + p') * 4294967296) + q) = (m : Int) % 18446744073709551616 := by rw [wrap_u, wrap_u]; omega
        refine ⟨by decide, ?_⟩
        refine brP_split (fun h4 => ?_) (fun h4 => ?_)
        · rw [ln, hpp, hn', lq] at h4
          exact fin1 (no (by rw [e]; unfold R64; simp at h4; omega)).symm
        · rw [ln, hpp, hn', lq] at h4
          have hmm : (m : Int) % 18446744073709551616 = m := by simp at h4; omega
          refine brP_split (fun h5 => ?_) (fun h5 => ?_)
          · rw [ln, hpp, hn', hmm] at h5
            exact fin1 (no (by rw [e]; unfold R64; simp at h5; omega)).symm
          · rw [ln, hpp, hn', hmm] at h5
            refine fin1 ?_
            have hr : R64 (a * b) := by rw [e]; unfold R64; simp at h5; omega
            rw [yes hr]
            refine tup2 (dint ?_) rfl
            show IntKind.wrap .i64 _ = _
            rw [ln, hpp, hn', hmm, e]
            rw [e] at hr
            exact wrap_in hr
    · rw [l0] at h1
      have g1 : ¬ uh = 0 := by simpa using h1
      refine brP_split (fun h2 => ?_) (fun h2 => ?_)
      · rw [l0'] at h2
        have g2 : ¬ vh = 0 := by simpa using h2
        have := c3 g1 g2
        exact fin1 (no (by rw [e]; unfold R64; omega)).symm
      · rw [l0'] at h2
        have g1 : vh = 0 := by simpa using h2
        have g2 := c2 g1
        refine brP_split (fun h3 => ?_) (fun h3 => ?_)
        · rw [lmid] at h3
          have h3' : 4294967296 ≤ (p + p') % 18446744073709551616 := by simpa using h3
          exact fin1 (no (by rw [e]; unfold R64; omega)).symm
        · rw [lmid] at h3
          have h3' : (p + p') % 18446744073709551616 < 4294967296 := by simpa using h3
          have hpp : (p + p') % 18446744073709551616 = p + p' := by omega
          rw [hpp] at h3'
          have hn' : IntKind.wrap .u64 (IntKind.wrap .u64 ((p + p') * 4294967296) + q) = (m : Int) % 18446744073709551616 := by rw [wrap_u, wrap_u]; omega
          refine ⟨by decide, ?_⟩
          refine brP_split (fun h4 => ?_) (fun h4 => ?_)
          · rw [ln, hpp, hn', lq] at h4
            exact fin1 (no (by rw [e]; unfold R64; simp at h4; omega)).symm
          · rw [ln, hpp, hn', lq] at h4
            have hmm : (m : Int) % 18446744073709551616 = m := by simp at h4; omega
            refine brP_split (fun h5 => ?_) (fun h5 => ?_)
            · rw [ln, hpp, hn', hmm] at h5
              exact fin1 (no (by rw [e]; unfold R64; simp at h5; omega)).symm
            · rw [ln, hpp, hn', hmm] at h5
              refine fin1 ?_
              have hr : R64 (a * b) := by rw [e]; unfold R64; simp at h5; omega
              rw [yes hr]
              refine tup2 (dint ?_) rfl
              show IntKind.wrap .i64 _ = _
              rw [ln, hpp, hn', hmm, e]
              rw [e] at hr
              exact wrap_in hr
theorem gcd_c (a b : Nat) (ha : R64 a) (hb : R64 b) : PFun Try.prog 80 [iv a, iv b] [] (iv (Nat.gcd a b : Nat)) [] := by
  refine fn_sem pok 12 0 Try.func80 (by kernel_rfl) rfl rfl rfl rfl ?_
  refine SWp.go pok (by kernel_rfl) ?_
  refine SWp.scope 0 rfl (fun x : Nat × Nat => Nat.gcd x.1 x.2 = Nat.gcd a b ∧ R64 x.1 ∧ R64 x.2) (fun x => ([(0, iv x.1), (1, iv x.2)], [])) (fun x => x.2) ?_ (fun x hx => ?_)
  · refine SWp.go pok (by kernel_rfl) ?_
    refine brP_split (fun h => ?_) (fun h => ?_)
    · have : b = 0 := by simpa using h
      subst this
      exact fin1 (dint (by rw [Nat.gcd_zero_right]))
    · have h0 : b ≠ 0 := by simpa using h
      refine ⟨by omega, ?_⟩
      exact ⟨(b, a % b), ⟨by show Nat.gcd b (a % b) = _; rw [Nat.gcd_comm b, ← Nat.gcd_rec, Nat.gcd_comm], hb, by unfold R64 at *; have := Nat.mod_lt a (Nat.pos_of_ne_zero h0); show _ ≤ ((a % b : Nat) : Int) ∧ ((a % b : Nat) : Int) ≤ _; omega⟩, Le.same ⟨rfl, rfl, trivial⟩⟩
  · obtain ⟨p, q⟩ := x
    obtain ⟨hg, hp, hq⟩ := hx
    refine SWp.go pok (by kernel_rfl) ?_
    refine brP_split (fun h => ?_) (fun h => ?_)
    · have : q = 0 := by simpa using h
      subst this
      exact fin1 (dint (by rw [← hg, Nat.gcd_zero_right]))
    · have h0 : q ≠ 0 := by simpa using h
      refine ⟨by omega, ?_⟩
      exact ⟨(q, p % q), ⟨by show Nat.gcd q (p % q) = _; rw [← hg, Nat.gcd_comm q, ← Nat.gcd_rec, Nat.gcd_comm], hq, by unfold R64 at *; have := Nat.mod_lt p (Nat.pos_of_ne_zero h0); show _ ≤ ((p % q : Nat) : Int) ∧ ((p % q : Nat) : Int) ≤ _; omega⟩, Nat.mod_lt p (Nat.pos_of_ne_zero h0), Le.same ⟨rfl, rfl, trivial⟩⟩
end Go.Proofs.Ytlafnhpmhflnaaa.Q

namespace Go.Proofs.Ytlafnhpmhflnaaa.Q
open Go.RowKit
variable [Amb]
/-- A cell of a list of whole numbers. -/
def ic (n : Int) : List D := [.int .i64 n]
abbrev ils (l : List Int) : V := .d (.sl (l.map ic))
theorem gcdF_full (l : List Int) : gcdF (l.take l.length) = gcdF l := by rw [List.take_length]
theorem all_not {l : List Int} {k : Nat} (hk : k < l.length) (ha : (l.take k).all notMin = true) (h : ¬ l[k] = -9223372036854775808) : (l.take (k + 1)).all notMin = true := by
  rw [take_snoc l k hk, List.all_append, ha]; simp [notMin, h]
theorem numGcd_c (l : List Int) (hl : l.length < 4611686018427387904) (hr : ∀ n ∈ l, R64 n) : PFun Try.prog 63 [ils l] [] (iv (gcdL l)) [] := by
  refine fn_sem pok 30 0 Try.func63 (by kernel_rfl) rfl rfl rfl rfl ?_
  refine SWp.go pok (by kernel_rfl) ?_
  refine SWp.loop (fun k : Nat => k ≤ l.length ∧ (l.take k).all notMin = true) (fun k => ([(0, ils l), (2, iv 0), (7, ils l), (8, iv (l.map ic).length), (9, iv k)], [])) (fun k => l.length - k) 0 ⟨Nat.zero_le _, by simp⟩ (Le.same ⟨rfl, rfl, rfl, rfl, rfl, trivial⟩) (fun k hk => ?_)
  obtain ⟨h1, h2⟩ := hk
  refine SWp.go pok (by kernel_rfl) ?_
  refine brP_split (fun h => ?_) (fun h => ?_)
  · have hlt : k < l.length := by simpa using h
    refine PIdx.map (get_at hlt) ?_
    refine brP_split (fun h4 => ?_) (fun h4 => ?_)
    · exact fin1 (dint (gcdL_no hlt (by simpa using h4)).symm)
    · exact ⟨k + 1, ⟨by omega, all_not hlt h2 (by simpa using h4)⟩, by omega, Le.same ⟨rfl, rfl, rfl, rfl, sint (wrap_nat k (by omega)), trivial⟩⟩
  · have hk : k = l.length := by simp at h; omega
    subst hk
    rw [List.take_length] at h2
    have hg := gcdF_r l h2 hr
    have hx : ∀ n ∈ l, n ≠ -9223372036854775808 := fun n hn => by have := List.all_eq_true.1 h2 n hn; simpa [notMin] using this
    refine SWp.loop (fun k : Nat => k ≤ l.length) (fun k => ([(2, iv (gcdF (l.take k) : Nat)), (16, ils l), (17, iv (l.map ic).length), (18, iv k)], [])) (fun k => l.length - k) 0 (Nat.zero_le _) (Le.same ⟨rfl, rfl, rfl, rfl, trivial⟩) (fun k hk => ?_)
    refine SWp.go pok (by kernel_rfl) ?_
    refine brP_split (fun h => ?_) (fun h => ?_)
    · have hlt : k < l.length := by simpa using h
      have r1 := hr l[k] (List.getElem_mem hlt)
      have r2 := hx l[k] (List.getElem_mem hlt)
      refine PIdx.map (get_at hlt) ?_
      have hm : maxI l[k] [IntKind.i64.wrap (0 - l[k])] = (l[k].natAbs : Int) := by
        have : IntKind.i64.wrap (0 - l[k]) = -l[k] := by rw [wrap_in (by unfold R64 at *; omega)]; omega
        rw [this]; simp only [maxI]; omega
      have c := gcd_c (gcdF (l.take k)) l[k].natAbs (hg k) (by unfold R64 at *; omega)
      rw [← hm] at c
      refine PFun.call c ?_
      exact ⟨k + 1, by show k + 1 ≤ _; omega, by omega, Le.same ⟨sint (by rw [gcdF_snoc l k hlt]), rfl, rfl, sint (wrap_nat k (by omega)), trivial⟩⟩
    · have hk : k = l.length := by simp at h; omega
      subst hk
      exact fin1 (dint (by rw [List.take_length, gcdL_yes h2]))
theorem refGcd_c (l : List Int) (hl : l.length < 4611686018427387904) (hr : ∀ n ∈ l, R64 n) : PFun Try.prog 43 [ils l] [] (iv (gcdL l)) [] := by
  refine fn_sem pok 44 0 Try.func43 (by kernel_rfl) rfl rfl rfl rfl ?_
  refine SWp.go pok (by kernel_rfl) ?_
  refine SWp.loop (fun k : Nat => k ≤ l.length ∧ (l.take k).all notMin = true) (fun k => ([(0, ils l), (3, iv 0), (4, iv k)], [])) (fun k => l.length - k) 0 ⟨Nat.zero_le _, by simp⟩ (Le.same ⟨rfl, rfl, rfl, trivial⟩) (fun k hk => ?_)
  obtain ⟨h1, h2⟩ := hk
  refine SWp.go pok (by kernel_rfl) ?_
  refine brP_split (fun h => ?_) (fun h => ?_)
  · have hlt : k < l.length := by simpa using h
    refine PIdx.map (get_at hlt) ?_
    refine brP_split (fun h4 => ?_) (fun h4 => ?_)
    · exact fin1 (dint (gcdL_no hlt (by simpa using h4)).symm)
    · exact ⟨k + 1, ⟨by omega, all_not hlt h2 (by simpa using h4)⟩, by omega, Le.same ⟨rfl, rfl, sint (wrap_nat k (by omega)), trivial⟩⟩
  · have hk : k = l.length := by simp at h; omega
    subst hk
    rw [List.take_length] at h2
    have hg := gcdF_r l h2 hr
    have hx : ∀ n ∈ l, n ≠ -9223372036854775808 := fun n hn => by have := List.all_eq_true.1 h2 n hn; simpa [notMin] using this
    refine SWp.loop (fun k : Nat => k ≤ l.length) (fun k => ([(0, ils l), (3, iv (gcdF (l.take k) : Nat)), (5, iv k)], [])) (fun k => l.length - k) 0 (Nat.zero_le _) (Le.same ⟨rfl, rfl, rfl, trivial⟩) (fun k hk => ?_)
    refine SWp.go pok (by kernel_rfl) ?_
    refine brP_split (fun h => ?_) (fun h => ?_)
    · have hlt : k < l.length := by simpa using h
      have r1 := hr l[k] (List.getElem_mem hlt)
      have r2 := hx l[k] (List.getElem_mem hlt)
      refine PIdx.map (get_at hlt) ?_
      have euclid : ∀ p q : Nat, q ≠ 0 → R64 p → R64 q → Nat.gcd q (p % q) = Nat.gcd p q ∧ R64 (p % q : Nat) ∧ p % q < q := fun p q h0 hp hq => ⟨by rw [Nat.gcd_comm q, ← Nat.gcd_rec, Nat.gcd_comm], by unfold R64 at *; have := Nat.mod_lt p (Nat.pos_of_ne_zero h0); omega, Nat.mod_lt p (Nat.pos_of_ne_zero h0)⟩
      refine brP_split (fun h5 => ?_) (fun h5 => ?_)
      all_goals
        refine SWp.loop (fun x : Nat × Nat => Nat.gcd x.1 x.2 = gcdF (l.take (k + 1)) ∧ R64 x.1 ∧ R64 x.2) (fun x => ([(0, ils l), (5, iv k), (6, iv x.1), (7, iv x.2)], [])) (fun x => x.2) (gcdF (l.take k), l[k].natAbs) ⟨(gcdF_snoc l k hlt).symm, hg k, by unfold R64 at *; omega⟩ (Le.same ⟨rfl, rfl, rfl, sint ?_, trivial⟩) (fun x hx => ?_)
        · first
            | (show IntKind.i64.wrap (0 - l[k]) = (l[k].natAbs : Int); rw [wrap_in (by unfold R64 at *; omega)]; simp at h5; omega)
            | (show l[k] = (l[k].natAbs : Int); simp at h5; omega)
        · obtain ⟨p, q⟩ := x
          obtain ⟨hg, hp, hq⟩ := hx
          refine SWp.go pok (by kernel_rfl) ?_
          refine brP_split (fun h6 => ?_) (fun h6 => ?_)
          · have h0 : q ≠ 0 := by simpa using h6
            obtain ⟨e1, e2, e3⟩ := euclid p q h0 hp hq
            refine ⟨by omega, ?_⟩
            exact ⟨(q, p % q), ⟨e1.trans hg, hq, e2⟩, e3, Le.same ⟨rfl, rfl, rfl, rfl, trivial⟩⟩
          · have h0 : q = 0 := by simpa using h6
            subst h0
            refine ⟨k + 1, hlt, by omega, Le.same ⟨rfl, sint ?_, sint (wrap_nat k (by omega)), trivial⟩⟩
            have hg' : Nat.gcd p 0 = gcdF (l.take (k + 1)) := hg
            rw [← hg', Nat.gcd_zero_right]
    · have hk : k = l.length := by simp at h; omega
      subst hk
      exact fin1 (dint (by rw [List.take_length, gcdL_yes h2]))
end Go.Proofs.Ytlafnhpmhflnaaa.Q

namespace Go.Proofs.Ytlafnhpmhflnaaa.Q
open Go.RowKit
variable [Amb]
structure Tm where
  var : Int
  c : Int
structure Ln where
  k : Int
  l : List Tm
structure Cn where
  rel : Int
  s : Ln
def Tm.e (t : Tm) : List D := [.int .i64 t.var, .int .i64 t.c]
def Ln.v (x : Ln) : V := .agg [.d (.int .i64 x.k), .d (.sl (x.l.map Tm.e))]
def Cn.v (x : Cn) : V := .agg [.d (.int .i64 x.rel), .d (.int .i64 x.s.k), .d (.sl (x.s.l.map Tm.e))]
def Tm.ok (t : Tm) : Prop := R64 t.var ∧ R64 t.c
def Ln.ok (x : Ln) : Prop := R64 x.k ∧ ∀ t ∈ x.l, t.ok
def Cn.ok (x : Cn) : Prop := R64 x.rel ∧ x.s.ok
/-- A sum, and whether it is there. -/
def lb (p : Ln × Bool) : V := .tup [p.1.v, .d (.bool p.2)]
def cb (p : Cn × Bool) : V := .tup [p.1.v, .d (.bool p.2)]
def okFrom (last : Int) : List Tm → Bool
  | [] => true
  | t :: ts => if t.var ≤ last ∨ t.c = 0 then false else okFrom t.var ts
def isB (xs : List Tm) : Bool := decide (xs.length ≤ 40) && okFrom (-1) xs
theorem okFrom_at (last : Int) (xs : List Tm) (k : Nat) (h : k < xs.length) : okFrom last (xs.drop k) = if xs[k].var ≤ last ∨ xs[k].c = 0 then false else okFrom xs[k].var (xs.drop (k + 1)) := by
  rw [List.drop_eq_getElem_cons h]; rfl
def scaleT (k : Int) : List Tm → Option (List Tm)
  | [] => some []
  | t :: ts => if (mulS t.c k).2 then (scaleT k ts).map (fun r => if (mulS t.c k).1 = 0 then r else ⟨t.var, (mulS t.c k).1⟩ :: r) else none
def noLn : Ln × Bool := (⟨0, []⟩, false)
def scaleS (a : Ln) (k : Int) : Ln × Bool :=
  if (mulS a.k k).2 = true ∧ isB a.l = true then match scaleT k a.l with | some l => (⟨(mulS a.k k).1, l⟩, true) | none => noLn else noLn
theorem scaleT_at (k : Int) (xs : List Tm) (j : Nat) (h : j < xs.length) : scaleT k (xs.drop j) = if (mulS xs[j].c k).2 then (scaleT k (xs.drop (j + 1))).map (fun r => if (mulS xs[j].c k).1 = 0 then r else ⟨xs[j].var, (mulS xs[j].c k).1⟩ :: r) else none := by
  rw [List.drop_eq_getElem_cons h]; rfl
theorem isB_len {l : List Tm} (h : isB l = true) : l.length ≤ 40 := by unfold isB at h; simp at h; exact h.1
theorem scale_no1 {x : Ln} {k : Int} (h : ¬ (mulS x.k k).2 = true) : scaleS x k = noLn := if_neg fun h' => h h'.1
theorem scale_no2 {x : Ln} {k : Int} (h : ¬ isB x.l = true) : scaleS x k = noLn := if_neg fun h' => h h'.2
theorem scale_no3 {x : Ln} {k : Int} (h : scaleT k x.l = none) : scaleS x k = noLn := by unfold scaleS; split <;> simp [h]
theorem scale_yes {x : Ln} {k : Int} {l : List Tm} (h1 : (mulS x.k k).2 = true) (h2 : isB x.l = true) (h : scaleT k x.l = some l) : scaleS x k = (⟨(mulS x.k k).1, l⟩, true) := by unfold scaleS; rw [if_pos ⟨h1, h2⟩, h]
def con (t : Tm) (r : List Tm) : List Tm := if t.c = 0 then r else t :: r
def addT : List Tm → List Tm → Option (List Tm)
  | [], [] => some []
  | t :: x, [] => (addT x []).map (con t)
  | [], u :: y => (addT [] y).map (con u)
  | t :: x, u :: y => if t.var < u.var then (addT x (u :: y)).map (con t) else if u.var < t.var then (addT (t :: x) y).map (con u)
      else if (addS t.c u.c).2 then (addT x y).map (con ⟨t.var, (addS t.c u.c).1⟩) else none
  termination_by x y => x.length + y.length
theorem addT_ny (u : Tm) (y : List Tm) : addT [] (u :: y) = (addT [] y).map (con u) := by rw [addT]
theorem addT_xn (t : Tm) (x : List Tm) : addT (t :: x) [] = (addT x []).map (con t) := by rw [addT]
theorem addT_lt {t u : Tm} (x y : List Tm) (h : t.var < u.var) : addT (t :: x) (u :: y) = (addT x (u :: y)).map (con t) := by rw [addT, if_pos h]
theorem addT_gt {t u : Tm} (x y : List Tm) (h : u.var < t.var) : addT (t :: x) (u :: y) = (addT (t :: x) y).map (con u) := by rw [addT, if_neg (by omega), if_pos h]
theorem addT_eq {t u : Tm} (x y : List Tm) (h1 : ¬ t.var < u.var) (h2 : ¬ u.var < t.var) (h : (addS t.c u.c).2 = true) : addT (t :: x) (u :: y) = (addT x y).map (con ⟨t.var, (addS t.c u.c).1⟩) := by rw [addT, if_neg h1, if_neg h2, if_pos h]
theorem addT_no {t u : Tm} (x y : List Tm) (h1 : ¬ t.var < u.var) (h2 : ¬ u.var < t.var) (h : ¬ (addS t.c u.c).2 = true) : addT (t :: x) (u :: y) = none := by rw [addT, if_neg h1, if_neg h2, if_neg h]
def addL (a b : Ln) : Ln × Bool :=
  if isB a.l = true ∧ isB b.l = true ∧ (addS a.k b.k).2 = true then match addT a.l b.l with | some l => if l.length ≤ 40 then (⟨(addS a.k b.k).1, l⟩, true) else noLn | none => noLn else noLn
theorem add_no1 {x y : Ln} (h : ¬ isB x.l = true) : addL x y = noLn := if_neg fun h' => h h'.1
theorem add_no2 {x y : Ln} (h : ¬ isB y.l = true) : addL x y = noLn := if_neg fun h' => h h'.2.1
theorem add_no3 {x y : Ln} (h : ¬ (addS x.k y.k).2 = true) : addL x y = noLn := if_neg fun h' => h h'.2.2
theorem add_none {x y : Ln} (h : addT x.l y.l = none) : addL x y = noLn := by unfold addL; split <;> simp [h]
theorem add_yes {x y : Ln} {l : List Tm} (h1 : isB x.l = true) (h2 : isB y.l = true) (h3 : (addS x.k y.k).2 = true) (h : addT x.l y.l = some l) (hl : l.length ≤ 40) : addL x y = (⟨(addS x.k y.k).1, l⟩, true) := by unfold addL; rw [if_pos ⟨h1, h2, h3⟩, h]; exact if_pos hl
theorem add_no4 {x y : Ln} {l : List Tm} (h1 : isB x.l = true) (h2 : isB y.l = true) (h3 : (addS x.k y.k).2 = true) (h : addT x.l y.l = some l) (hl : ¬ l.length ≤ 40) : addL x y = noLn := by unfold addL; rw [if_pos ⟨h1, h2, h3⟩, h]; exact if_neg hl
def valF (vals : List Int) (n : Int) : List Tm → Int × Bool
  | [] => (n, true)
  | t :: ts => if (vals.length : Int) ≤ t.var then (0, false) else if (mulS t.c (vals.getD t.var.toNat 0)).2 = true then if (addS n (mulS t.c (vals.getD t.var.toNat 0)).1).2 = true then valF vals (addS n (mulS t.c (vals.getD t.var.toNat 0)).1).1 ts else (0, false) else (0, false)
def valueS (a : Ln) (vals : List Int) : Int × Bool := if isB a.l = true then valF vals a.k a.l else (0, false)
def holdsS (c : Cn) (vals : List Int) : Bool := (valueS c.s vals).2 && (if c.rel = 1 then decide ((valueS c.s vals).1 ≤ 0) else if c.rel = 2 then (valueS c.s vals).1 == 0 else if c.rel = 3 then (valueS c.s vals).1 != 0 else false)
theorem okFrom_var {last : Int} {l : List Tm} (h : okFrom last l = true) : ∀ t ∈ l, last < t.var := by
  induction l generalizing last with
  | nil => simp
  | cons u l ih =>
    unfold okFrom at h
    split at h
    · cases h
    · rename_i hn
      intro t ht
      rcases List.mem_cons.1 ht with rfl | ht
      · omega
      · have := ih h t ht; omega
theorem isB_var {l : List Tm} (h : isB l = true) (k : Nat) (hk : k < l.length) : 0 ≤ l[k].var := by
  unfold isB at h
  simp only [Bool.and_eq_true] at h
  have := okFrom_var h.2 l[k] (List.getElem_mem hk)
  omega
theorem valF_at (vals : List Int) (n : Int) (l : List Tm) (k : Nat) (h : k < l.length) : valF vals n (l.drop k) = if (vals.length : Int) ≤ l[k].var then (0, false) else if (mulS l[k].c (vals.getD l[k].var.toNat 0)).2 = true then if (addS n (mulS l[k].c (vals.getD l[k].var.toNat 0)).1).2 = true then valF vals (addS n (mulS l[k].c (vals.getD l[k].var.toNat 0)).1).1 (l.drop (k + 1)) else (0, false) else (0, false) := by
  rw [List.drop_eq_getElem_cons h]; rfl
theorem valF_r (vals : List Int) (l : List Tm) : ∀ n, R64 n → R64 (valF vals n l).1 := by
  induction l with
  | nil => exact fun n h => h
  | cons t l ih =>
    intro n h
    unfold valF
    have z : R64 0 := by unfold R64; omega
    split
    · exact z
    · split
      · split
        · exact ih _ (told_r _)
        · exact z
      · exact z
theorem valueS_r (a : Ln) (vals : List Int) (h : R64 a.k) : R64 (valueS a vals).1 := by
  unfold valueS; split
  · exact valF_r _ _ _ h
  · unfold R64; omega
def tmEq (a b : Tm) : Bool := a.var == b.var && a.c == b.c
def sameT : List Tm → List Tm → Bool
  | [], _ => true
  | _ :: _, [] => true
  | t :: ts, u :: us => tmEq t u && sameT ts us
def sameS (a b : Ln) : Bool := a.k == b.k && (a.l.length == b.l.length && sameT a.l b.l)
theorem sameT_at (a b : List Tm) (k : Nat) (h : k < a.length) (h2 : k < b.length) : sameT (a.drop k) (b.drop k) = (tmEq a[k] b[k] && sameT (a.drop (k + 1)) (b.drop (k + 1))) := by
  rw [List.drop_eq_getElem_cons h, List.drop_eq_getElem_cons h2]; rfl
def noCn : Cn × Bool := (⟨0, ⟨0, []⟩⟩, false)
def divT (g : Int) (l : List Tm) : List Tm := l.map fun t => ⟨t.var, t.c.tdiv g⟩
def tightS (x : Cn) : Cn × Bool :=
  if x.rel < 1 ∨ 3 < x.rel then noCn else if isB x.s.l = true then if x.s.l.length = 0 then (x, true) else
    let g := gcdL (x.s.l.map (·.c))
    if g = 0 then noCn else if x.rel = 1 then if (negS x.s.k).2 = true then (⟨1, ⟨-(divS (negS x.s.k).1 g), divT g x.s.l⟩⟩, true) else noCn
    else if x.s.k.tmod g = 0 then (⟨x.rel, ⟨x.s.k.tdiv g, divT g x.s.l⟩⟩, true) else (⟨x.rel, ⟨1, []⟩⟩, true) else noCn
theorem gcdL_nonneg (l : List Int) : 0 ≤ gcdL l := by unfold gcdL; split <;> omega
theorem gcdL_r (l : List Int) (hr : ∀ n ∈ l, R64 n) : R64 (gcdL l) := by
  by_cases h : l.all notMin = true
  · rw [gcdL_yes h]
    have := gcdF_r l h hr l.length
    rwa [List.take_length] at this
  · unfold gcdL
    have : ¬ l.all (fun n => decide (n ≠ -9223372036854775808)) = true := h
    rw [if_neg this]; unfold R64; omega
theorem tight_no {x : Cn} (h : x.rel < 1 ∨ 3 < x.rel) : tightS x = noCn := if_pos h
theorem tight_is {x : Cn} (h : ¬ isB x.s.l = true) : tightS x = noCn := by unfold tightS; split <;> simp [h]
theorem tight_nil {x : Cn} (h0 : ¬ (x.rel < 1 ∨ 3 < x.rel)) (h : isB x.s.l = true) (h1 : x.s.l.length = 0) : tightS x = (x, true) := by unfold tightS; rw [if_neg h0, if_pos h, if_pos h1]
theorem tight_g {x : Cn} (h1 : ¬ x.s.l.length = 0) (h2 : gcdL (x.s.l.map (·.c)) = 0) : tightS x = noCn := by
  unfold tightS
  by_cases a : x.rel < 1 ∨ 3 < x.rel
  · rw [if_pos a]
  · rw [if_neg a]
    by_cases b : isB x.s.l = true
    · rw [if_pos b, if_neg h1]; simp [h2]
    · rw [if_neg b]
theorem tight_r1 {x : Cn} (h0 : ¬ (x.rel < 1 ∨ 3 < x.rel)) (h : isB x.s.l = true) (h1 : ¬ x.s.l.length = 0) (h2 : ¬ gcdL (x.s.l.map (·.c)) = 0) (h3 : x.rel = 1) (h4 : (negS x.s.k).2 = true) : tightS x = (⟨1, ⟨-(divS (negS x.s.k).1 (gcdL (x.s.l.map (·.c)))), divT (gcdL (x.s.l.map (·.c))) x.s.l⟩⟩, true) := by
  unfold tightS; rw [if_neg h0, if_pos h, if_neg h1]; simp only []; rw [if_neg h2, if_pos h3, if_pos h4]
theorem tight_r1n {x : Cn} (h0 : ¬ (x.rel < 1 ∨ 3 < x.rel)) (h : isB x.s.l = true) (h1 : ¬ x.s.l.length = 0) (h2 : ¬ gcdL (x.s.l.map (·.c)) = 0) (h3 : x.rel = 1) (h4 : ¬ (negS x.s.k).2 = true) : tightS x = noCn := by
  unfold tightS; rw [if_neg h0, if_pos h, if_neg h1]; simp only []; rw [if_neg h2, if_pos h3, if_neg h4]
theorem tight_r2 {x : Cn} (h0 : ¬ (x.rel < 1 ∨ 3 < x.rel)) (h : isB x.s.l = true) (h1 : ¬ x.s.l.length = 0) (h2 : ¬ gcdL (x.s.l.map (·.c)) = 0) (h3 : ¬ x.rel = 1) (h4 : x.s.k.tmod (gcdL (x.s.l.map (·.c))) = 0) : tightS x = (⟨x.rel, ⟨x.s.k.tdiv (gcdL (x.s.l.map (·.c))), divT (gcdL (x.s.l.map (·.c))) x.s.l⟩⟩, true) := by
  unfold tightS; rw [if_neg h0, if_pos h, if_neg h1]; simp only []; rw [if_neg h2, if_neg h3, if_pos h4]
theorem tight_r2n {x : Cn} (h0 : ¬ (x.rel < 1 ∨ 3 < x.rel)) (h : isB x.s.l = true) (h1 : ¬ x.s.l.length = 0) (h2 : ¬ gcdL (x.s.l.map (·.c)) = 0) (h3 : ¬ x.rel = 1) (h4 : ¬ x.s.k.tmod (gcdL (x.s.l.map (·.c))) = 0) : tightS x = (⟨x.rel, ⟨1, []⟩⟩, true) := by
  unfold tightS; rw [if_neg h0, if_pos h, if_neg h1]; simp only []; rw [if_neg h2, if_neg h3, if_neg h4]
theorem lin_at {x : Ln} (h : x.ok) {k : Nat} (hk : k < x.l.length) : R64 x.l[k].var ∧ R64 x.l[k].c := h.2 _ (List.getElem_mem hk)
def lastV (l : List Tm) (k : Nat) : Int := if k = 0 then -1 else (l.getD (k-1) ⟨0,0⟩).var
theorem lastV_succ {l : List Tm} {k : Nat} (h : k < l.length) : lastV l (k + 1) = l[k].var := by
  simp [lastV, h]
end Go.Proofs.Ytlafnhpmhflnaaa.Q

namespace Go.Proofs.Ytlafnhpmhflnaaa.Q
open Go.RowKit
abbrev Str := List UInt8
structure Ex where
  op : Int
  mon : Str
  name : Str
  n : Int
  kids : List Ex
  pl : Int
structure St where
  kind : Int
  mon : Str
  name : Str
  n : Int
  e : Ex
  blocks : List (List St)
  pl : Int
structure Vr where
  name : Str
  type : Int
  lo : Int
  hi : Int
  init : Int
  pl : Int
structure Mt where
  name : Str
  body : List St
  pl : Int
structure Mo where
  name : Str
  vars : List Vr
  methods : List Mt
  pl : Int
structure Ro where
  name : Str
  star : Bool
  count : Int
  body : List St
  pl : Int
structure Pg where
  mons : List Mo
  roles : List Ro
mutual
def Ex.e : Ex → List D
  | ⟨op, mon, name, n, kids, pl⟩ => [.int .i64 op, .str mon, .str name, .int .i64 n, .sl (Ex.es kids), .int .i64 pl]
def Ex.es : List Ex → List (List D)
  | [] => []
  | x :: r => x.e :: Ex.es r
end
theorem Ex.es_map : ∀ l : List Ex, Ex.es l = l.map Ex.e
  | [] => by simp [Ex.es]
  | x :: r => by rw [Ex.es, Ex.es_map r]; rfl
theorem Ex.e_eq (x : Ex) : x.e = [.int .i64 x.op, .str x.mon, .str x.name, .int .i64 x.n, .sl (x.kids.map Ex.e), .int .i64 x.pl] := by
  cases x; rw [Ex.e, Ex.es_map]
mutual
def St.c : St → List D
  | ⟨kind, mon, name, n, e, blocks, pl⟩ => [.int .i64 kind, .str mon, .str name, .int .i64 n] ++ e.e ++ [.sl (St.bs blocks), .int .i64 pl]
def St.bs : List (List St) → List (List D)
  | [] => []
  | b :: r => [.sl (St.cs b)] :: St.bs r
def St.cs : List St → List (List D)
  | [] => []
  | x :: r => x.c :: St.cs r
end
/-- A block, as a cell. -/
def blk (b : List St) : List D := [.sl (b.map St.c)]
theorem St.cs_map : ∀ l : List St, St.cs l = l.map St.c
  | [] => by simp [St.cs]
  | x :: r => by rw [St.cs, St.cs_map r]; rfl
theorem St.bs_map : ∀ l : List (List St), St.bs l = l.map blk
  | [] => by simp [St.bs]
  | x :: r => by rw [St.bs, St.bs_map r, St.cs_map]; rfl
theorem St.c_eq (x : St) : x.c = [.int .i64 x.kind, .str x.mon, .str x.name, .int .i64 x.n] ++ x.e.e ++ [.sl (x.blocks.map blk), .int .i64 x.pl] := by
  cases x; rw [St.c, St.bs_map]
def Vr.c (x : Vr) : List D := [.str x.name, .int .i64 x.type, .int .i64 x.lo, .int .i64 x.hi, .int .i64 x.init, .int .i64 x.pl]
def Mt.c (x : Mt) : List D := [.str x.name, .sl (x.body.map St.c), .int .i64 x.pl]
def Mo.c (x : Mo) : List D := [.str x.name, .sl (x.vars.map Vr.c), .sl (x.methods.map Mt.c), .int .i64 x.pl]
def Ro.c (x : Ro) : List D := [.str x.name, .bool x.star, .int .i64 x.count, .sl (x.body.map St.c), .int .i64 x.pl]
def Pg.v (x : Pg) : V := .agg [.d (.sl (x.mons.map Mo.c)), .d (.sl (x.roles.map Ro.c))]
end Go.Proofs.Ytlafnhpmhflnaaa.Q
