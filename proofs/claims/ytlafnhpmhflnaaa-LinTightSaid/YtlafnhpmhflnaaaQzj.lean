/- Sums of variables: which term has a variable. No condition. -/
import Derived.Test.YtlafnhpmhflnaaaQzi
set_option linter.unusedVariables false
set_option linter.unusedSectionVars false
set_option linter.unnecessarySimpa false
set_option linter.unusedSimpArgs false
set_option maxRecDepth 100000
set_option maxHeartbeats 4000000
namespace Go.Proofs.Ytlafnhpmhflnaaa.Q
open Go.RowKit
variable [Amb]
def Tm.v (t : Tm) : V := .agg [iv t.var, iv t.c]
/-- At which place a variable stands first, from a place on; -1: nowhere. -/
def idxF (v : Int) : Nat → List Tm → Int
  | _, [] => -1
  | k, t :: r => if t.var = v then k else idxF v (k + 1) r
theorem idxF_at (v : Int) {l : List Tm} {k : Nat} (h : k < l.length) : idxF v k (l.drop k) = if l[k].var = v then (k : Int) else idxF v (k + 1) (l.drop (k + 1)) := by rw [List.drop_eq_getElem_cons h]; rfl
theorem putFn_c (t : Tm) (v : Int) : PFun Try.prog 49 [t.v, .ptr 0 0] [.box [iv v]] (.d (.bool (t.var == v))) [.box [iv v]] := by
  refine fn_sem pok 8 1 Try.func49 (by kernel_rfl) rfl rfl rfl rfl ?_
  refine SWp.go pok (by kernel_rfl) ?_
  refine brP_split (fun h => ?_) (fun h => ?_)
  · exact ⟨dbool h.symm, rfl⟩
  · exact ⟨dbool h.symm, rfl⟩
theorem idxPut_c (l : List Tm) (v : Int) (hl : l.length < 1073741824) : PFun Try.prog 48 [.d (.sl (l.map Tm.e)), .fn (.func 49) [] [.ptr 0 0]] [.box [iv v]] (iv (idxF v 0 l)) [.box [iv v]] := by
  refine fn_sem pok 19 1 Try.func48 (by kernel_rfl) rfl rfl rfl rfl ?_
  refine SWp.go pok (by kernel_rfl) ?_
  refine SWp.loop (fun k : Nat => k ≤ l.length ∧ idxF v k (l.drop k) = idxF v 0 l) (fun k => ([(0, .d (.sl (l.map Tm.e))), (1, .fn (.func 49) [] [.ptr 0 0]), (7, iv (l.map Tm.e).length), (8, iv k)], [.box [iv v]])) (fun k => l.length - k) 0 ⟨Nat.zero_le _, rfl⟩ (Le.same ⟨rfl, rfl, rfl, rfl, trivial⟩) (fun k hk => ?_)
  obtain ⟨hj, hk⟩ := hk
  refine SWp.go pok (by kernel_rfl) ?_
  refine brP_split (fun h => ?_) (fun h => ?_)
  · have hlt : k < l.length := by simpa using h
    have hat := idxF_at v hlt
    refine PIdx.map (get_at hlt) ?_
    refine PFun.call (putFn_c l[k] v) ?_
    refine brP_split (fun h3 => ?_) (fun h3 => ?_)
    · exact ⟨dint (by rw [← hk, hat, if_pos (by simpa using h3)]), rfl⟩
    · exact ⟨k + 1, ⟨hlt, by rw [← hk, hat, if_neg (by simpa using h3)]⟩, by omega, Le.same ⟨rfl, rfl, rfl, sint (wrap_nat k (by omega)), trivial⟩⟩
  · have hk' : k = l.length := by simp at h; omega
    exact ⟨dint (by rw [← hk, drop_nil hk']; rfl), rfl⟩
end Go.Proofs.Ytlafnhpmhflnaaa.Q
