/- Names: which slot a variable has. No condition. -/
import Derived.Test.YtlafnhpmhflnaaaQzk
set_option linter.unusedVariables false
set_option linter.unusedSectionVars false
set_option linter.unnecessarySimpa false
set_option linter.unusedSimpArgs false
set_option maxRecDepth 100000
set_option maxHeartbeats 4000000
namespace Go.Proofs.Ytlafnhpmhflnaaa.Q
open Go.RowKit
variable [Amb]
def Vr.v (x : Vr) : V := .agg [sv' x.name, iv x.type, iv x.lo, iv x.hi, iv x.init, iv x.pl]
theorem slotFn_c (t : Vr) (s : Str) : PFun Try.prog 74 [t.v, .ptr 0 0] [.box [sv' s]] (.d (.bool (t.name == s))) [.box [sv' s]] := by
  refine fn_sem pok 8 1 Try.func74 (by kernel_rfl) rfl rfl rfl rfl ?_
  refine SWp.go pok (by kernel_rfl) ?_
  refine brP_split (fun h => ?_) (fun h => ?_)
  · exact ⟨dbool h.symm, rfl⟩
  · exact ⟨dbool h.symm, rfl⟩
theorem idxVar_c (l : List Vr) (s : Str) (hl : l.length < 1073741824) : PFun Try.prog 73 [.d (.sl (l.map Vr.c)), .fn (.func 74) [] [.ptr 0 0]] [.box [sv' s]] (iv (firstF (fun t : Vr => t.name == s) 0 l)) [.box [sv' s]] := by
  refine fn_sem pok 19 1 Try.func73 (by kernel_rfl) rfl rfl rfl rfl ?_
  refine SWp.go pok (by kernel_rfl) ?_
  refine SWp.loop (fun k : Nat => k ≤ l.length ∧ firstF (fun t : Vr => t.name == s) k (l.drop k) = firstF (fun t : Vr => t.name == s) 0 l) (fun k => ([(0, .d (.sl (l.map Vr.c))), (1, .fn (.func 74) [] [.ptr 0 0]), (7, iv (l.map Vr.c).length), (8, iv k)], [.box [sv' s]])) (fun k => l.length - k) 0 ⟨Nat.zero_le _, rfl⟩ (Le.same ⟨rfl, rfl, rfl, rfl, trivial⟩) (fun k hk => ?_)
  obtain ⟨hj, hk⟩ := hk
  refine SWp.go pok (by kernel_rfl) ?_
  refine brP_split (fun h => ?_) (fun h => ?_)
  · have hlt : k < l.length := by simpa using h
    have hat := firstF_at (fun t : Vr => t.name == s) hlt
    refine PIdx.map (get_at hlt) ?_
    refine PFun.call (slotFn_c l[k] s) ?_
    refine brP_split (fun h3 => ?_) (fun h3 => ?_)
    · exact ⟨dint (by rw [← hk, hat, if_pos h3]), rfl⟩
    · exact ⟨k + 1, ⟨hlt, by rw [← hk, hat, if_neg (by rw [h3]; simp)]⟩, by omega, Le.same ⟨rfl, rfl, rfl, sint (wrap_nat k (by omega)), trivial⟩⟩
  · have hk' : k = l.length := by simp at h; omega
    exact ⟨dint (by rw [← hk, List.drop_of_length_le (by omega)]; rfl), rfl⟩
end Go.Proofs.Ytlafnhpmhflnaaa.Q
