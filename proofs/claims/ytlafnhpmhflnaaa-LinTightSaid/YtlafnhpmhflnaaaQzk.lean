/- Names: which monitor has a name. No condition. -/
import Derived.Test.YtlafnhpmhflnaaaQvb
import Derived.Test.YtlafnhpmhflnaaaQzb
set_option linter.unusedVariables false
set_option linter.unusedSectionVars false
set_option linter.unnecessarySimpa false
set_option linter.unusedSimpArgs false
set_option maxRecDepth 100000
set_option maxHeartbeats 4000000
namespace Go.Proofs.Ytlafnhpmhflnaaa.Q
open Go.RowKit
variable [Amb]
abbrev sv' (s : Str) : V := .d (.str s)
/-- At which place it holds first, from a place on; -1: nowhere. -/
def firstF {α : Type} (p : α → Bool) : Nat → List α → Int
  | _, [] => -1
  | k, t :: r => if p t = true then k else firstF p (k + 1) r
theorem firstF_at {α : Type} (p : α → Bool) {l : List α} {k : Nat} (h : k < l.length) : firstF p k (l.drop k) = if p l[k] = true then (k : Int) else firstF p (k + 1) (l.drop (k + 1)) := by rw [List.drop_eq_getElem_cons h]; rfl
def Mo.v (x : Mo) : V := .agg [sv' x.name, .d (.sl (x.vars.map Vr.c)), .d (.sl (x.methods.map Mt.c)), iv x.pl]
theorem monFn_c (t : Mo) (s : Str) : PFun Try.prog 90 [t.v, .ptr 0 0] [.box [sv' s]] (.d (.bool (t.name == s))) [.box [sv' s]] := by
  refine fn_sem pok 8 1 Try.func90 (by kernel_rfl) rfl rfl rfl rfl ?_
  refine SWp.go pok (by kernel_rfl) ?_
  refine brP_split (fun h => ?_) (fun h => ?_)
  · exact ⟨dbool h.symm, rfl⟩
  · exact ⟨dbool h.symm, rfl⟩
theorem idxMon_c (l : List Mo) (s : Str) (hl : l.length < 1073741824) : PFun Try.prog 89 [.d (.sl (l.map Mo.c)), .fn (.func 90) [] [.ptr 0 0]] [.box [sv' s]] (iv (firstF (fun t : Mo => t.name == s) 0 l)) [.box [sv' s]] := by
  refine fn_sem pok 19 1 Try.func89 (by kernel_rfl) rfl rfl rfl rfl ?_
  refine SWp.go pok (by kernel_rfl) ?_
  refine SWp.loop (fun k : Nat => k ≤ l.length ∧ firstF (fun t : Mo => t.name == s) k (l.drop k) = firstF (fun t : Mo => t.name == s) 0 l) (fun k => ([(0, .d (.sl (l.map Mo.c))), (1, .fn (.func 90) [] [.ptr 0 0]), (7, iv (l.map Mo.c).length), (8, iv k)], [.box [sv' s]])) (fun k => l.length - k) 0 ⟨Nat.zero_le _, rfl⟩ (Le.same ⟨rfl, rfl, rfl, rfl, trivial⟩) (fun k hk => ?_)
  obtain ⟨hj, hk⟩ := hk
  refine SWp.go pok (by kernel_rfl) ?_
  refine brP_split (fun h => ?_) (fun h => ?_)
  · have hlt : k < l.length := by simpa using h
    have hat := firstF_at (fun t : Mo => t.name == s) hlt
    refine PIdx.map (get_at hlt) ?_
    refine PFun.call (monFn_c l[k] s) ?_
    refine brP_split (fun h3 => ?_) (fun h3 => ?_)
    · exact ⟨dint (by rw [← hk, hat, if_pos h3]), rfl⟩
    · exact ⟨k + 1, ⟨hlt, by rw [← hk, hat, if_neg (by rw [h3]; simp)]⟩, by omega, Le.same ⟨rfl, rfl, rfl, sint (wrap_nat k (by omega)), trivial⟩⟩
  · have hk' : k = l.length := by simp at h; omega
    exact ⟨dint (by rw [← hk, List.drop_of_length_le (by omega)]; rfl), rfl⟩
def monS (p : Pg) (s : Str) : Int × Bool := if 0 ≤ firstF (fun t : Mo => t.name == s) 0 p.mons then (firstF (fun t : Mo => t.name == s) 0 p.mons, true) else (0, false)
theorem namesMonitor_c (p : Pg) (s : Str) (hl : p.mons.length < 1073741824) : PFun Try.prog 72 [p.v, sv' s] [] (ib (monS p s)) [] := by
  refine fn_sem pok 15 0 Try.func72 (by kernel_rfl) rfl rfl rfl rfl ?_
  refine SWp.go pok (by kernel_rfl) ?_
  refine PFun.call (idxMon_c p.mons s hl) ?_
  refine brP_split (fun h => ?_) (fun h => ?_)
  · have h' : 0 ≤ firstF (fun t : Mo => t.name == s) 0 p.mons := by simpa using h
    refine fin1 ?_
    rw [monS, if_pos h']
    exact tup2 (dint (by show maxI _ [0] = _; simp only [maxI]; omega)) rfl
  · have h' : ¬ 0 ≤ firstF (fun t : Mo => t.name == s) 0 p.mons := by simpa using h
    refine fin1 ?_
    rw [monS, if_neg h']
    exact tup2 (dint (by show maxI _ [0] = _; simp only [maxI]; omega)) rfl
end Go.Proofs.Ytlafnhpmhflnaaa.Q
