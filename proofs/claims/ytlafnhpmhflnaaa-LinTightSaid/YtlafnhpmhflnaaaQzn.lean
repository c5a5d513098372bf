/- Names: all variables. No condition. -/
import Derived.Test.YtlafnhpmhflnaaaQzm
set_option linter.unusedVariables false
set_option linter.unusedSectionVars false
set_option linter.unnecessarySimpa false
set_option linter.unusedSimpArgs false
set_option maxRecDepth 100000
set_option maxHeartbeats 4000000
namespace Go.Proofs.Ytlafnhpmhflnaaa.Q
open Go.RowKit
variable [Amb]
def slotsS (l : List Mo) : List Vr := l.flatMap fun m => m.vars
theorem slotsS_snoc {l : List Mo} {k : Nat} (h : k < l.length) : slotsS (l.take (k + 1)) = slotsS (l.take k) ++ l[k].vars := by
  unfold slotsS; rw [take_snoc l k h, List.flatMap_append]; simp
theorem slotsS_len (l : List Mo) : (slotsS l).length = nVars l := by unfold slotsS nVars; simp [List.length_flatMap]
theorem RL_vr (l : List Vr) : RL (l.map Vr.c) 6 := fun r hr => by obtain ⟨t, _, rfl⟩ := List.mem_map.1 hr; rfl
theorem namesSlots_c (p : Pg) (hl : p.mons.length < 1073741824) (hn : nVars p.mons < 1073741824) : PFun Try.prog 52 [p.v] [] (.d (.sl ((slotsS p.mons).map Vr.c))) [] := by
  refine fn_sem pok 18 0 Try.func52 (by kernel_rfl) rfl rfl rfl rfl ?_
  refine SWp.go pok (by kernel_rfl) ?_
  refine SWp.tipSlot 2 6 rfl ?_
  refine SWp.loop (fun q : Nat × List (List D) => q.1 ≤ p.mons.length ∧ q.2 = (slotsS (p.mons.take q.1)).map Vr.c) (fun q => ([(2, .gsl q.2 1), (6, .d (.sl (p.mons.map Mo.c))), (7, iv (p.mons.map Mo.c).length), (8, iv q.1)], [.box [.d (.sl (p.mons.map Mo.c)), .d (.sl (p.roles.map Ro.c))], .tip 6 q.2.length])) (fun q => p.mons.length - q.1) (0, []) ⟨Nat.zero_le _, by simp [slotsS]⟩ (Le.same ⟨rfl, rfl, rfl, rfl, trivial⟩) (fun q hq => ?_)
  obtain ⟨k, rows⟩ := q
  obtain ⟨hk, hr⟩ := hq
  simp only at hk hr
  subst hr
  refine SWp.go pok (by kernel_rfl) ?_
  refine brP_split (fun h => ?_) (fun h => ?_)
  · have hlt : k < p.mons.length := by simpa using h
    have hs := slotsS_snoc hlt
    have e1 := nVars_le (l := p.mons) (k + 1)
    rw [← slotsS_len, hs] at e1
    refine PIdx.map (get_at hlt) ?_
    refine ⟨⟨rfl, RL_vr _, RL_vr _, by simp at e1 ⊢; omega⟩, ?_⟩
    exact ⟨(k + 1, (slotsS (p.mons.take k)).map Vr.c ++ p.mons[k].vars.map Vr.c), ⟨hlt, by show _ = (slotsS (p.mons.take (k + 1))).map Vr.c; rw [hs, List.map_append]⟩, by show p.mons.length - (k + 1) < p.mons.length - k; omega, .inr ⟨[0, 1], ⟨rfl, rfl⟩, rfl, rfl, rfl, rfl, sint (wrap_nat k (by omega)), trivial⟩⟩
  · have hk' : p.mons.take k = p.mons := List.take_of_length_le (by simp at h; omega)
    exact fin1 (by rw [hk'])
end Go.Proofs.Ytlafnhpmhflnaaa.Q
