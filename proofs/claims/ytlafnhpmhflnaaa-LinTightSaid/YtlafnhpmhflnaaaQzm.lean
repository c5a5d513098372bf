/- Names: which slot a variable has: names.Slot. No condition. -/
import Derived.Test.YtlafnhpmhflnaaaQzl
set_option linter.unusedVariables false
set_option linter.unusedSectionVars false
set_option linter.unnecessarySimpa false
set_option linter.unusedSimpArgs false
set_option maxRecDepth 100000
set_option maxHeartbeats 4000000
namespace Go.Proofs.Ytlafnhpmhflnaaa.Q
open Go.RowKit
variable [Amb]
/-- How many variables these monitors have. -/
def nVars (l : List Mo) : Nat := (l.map fun m => m.vars.length).sum
theorem firstF_lt {α : Type} (p : α → Bool) : ∀ (l : List α) (k : Nat), firstF p k l < k + l.length ∧ (firstF p k l = -1 ∨ (k : Int) ≤ firstF p k l)
  | [], k => by simp [firstF]; omega
  | t :: r, k => by
    unfold firstF
    have := firstF_lt p r (k + 1)
    split
    · simp; omega
    · simp; omega
def slotS (p : Pg) (mon name : Str) : Int × Bool :=
  if (monS p mon).2 = true then match p.mons[(monS p mon).1.toNat]? with
    | some m => if firstF (fun t : Vr => t.name == name) 0 m.vars < 0 then (0, false) else (firstF (fun t : Vr => t.name == name) 0 m.vars + nVars (p.mons.take (monS p mon).1.toNat), true)
    | none => (0, false)
  else (0, false)
theorem nVars_snoc {l : List Mo} {k : Nat} (h : k < l.length) : nVars (l.take (k + 1)) = nVars (l.take k) + l[k].vars.length := by
  unfold nVars
  rw [take_snoc l k h, List.map_append, List.sum_append]; simp
theorem nVars_le {l : List Mo} (k : Nat) : nVars (l.take k) ≤ nVars l := by
  unfold nVars
  have : (l.map fun m => m.vars.length).sum = ((l.take k).map fun m => m.vars.length).sum + ((l.drop k).map fun m => m.vars.length).sum := by
    rw [← List.sum_append, ← List.map_append, List.take_append_drop]
  omega
theorem namesSlot_c (p : Pg) (mon name : Str) (hl : p.mons.length < 1073741824) (hn : nVars p.mons < 1073741824) : PFun Try.prog 57 [p.v, sv' mon, sv' name] [] (ib (slotS p mon name)) [] := by
  refine fn_sem pok 47 0 Try.func57 (by kernel_rfl) rfl rfl rfl rfl ?_
  refine SWp.go pok (by kernel_rfl) ?_
  refine PFun.call (namesMonitor_c p mon hl) ?_
  refine brP_split (fun h => ?_) (fun h => ?_)
  · exact fin1 (ib_f (if_neg (by simpa using h)))
  have h1 : (monS p mon).2 = true := by simpa using h
  have hm : 0 ≤ firstF (fun t : Mo => t.name == mon) 0 p.mons ∧ (monS p mon).1 = firstF (fun t : Mo => t.name == mon) 0 p.mons := by
    unfold monS at h1 ⊢
    split at h1
    · rename_i hh; exact ⟨hh, by rw [if_pos hh]⟩
    · cases h1
  obtain ⟨i, hi⟩ := Int.eq_ofNat_of_zero_le hm.1
  have hil : i < p.mons.length := by have := (firstF_lt (fun t : Mo => t.name == mon) p.mons 0).1; omega
  have hmi : (monS p mon).1 = (i : Int) := by rw [hm.2, hi]
  have hs : slotS p mon name = if firstF (fun t : Vr => t.name == name) 0 p.mons[i].vars < 0 then (0, false) else (firstF (fun t : Vr => t.name == name) 0 p.mons[i].vars + nVars (p.mons.take i), true) := by
    unfold slotS; rw [if_pos h1, hmi]; simp [hil]
  have hv : p.mons[i].vars.length ≤ nVars p.mons := by have := nVars_snoc hil; have := nVars_le (l := p.mons) (i + 1); omega
  refine PIdx.map' hmi (get_at hil) ?_
  refine PFun.call (idxVar_c p.mons[i].vars name (by omega)) ?_
  obtain ⟨f, hf⟩ : ∃ f, firstF (fun t : Vr => t.name == name) 0 p.mons[i].vars = f := ⟨_, rfl⟩
  have hfl := firstF_lt (fun t : Vr => t.name == name) p.mons[i].vars 0
  refine brP_split (fun h => ?_) (fun h => ?_)
  · exact fin1 (ib_f (by rw [hs, if_pos (by simpa using h)]))
  rw [if_neg (by simpa using h)] at hs
  have h0 : 0 ≤ f := by rw [hf] at h; simpa using h
  rw [hf] at hfl
  have hrl : ((p.mons.map Mo.c).take (monS p mon).1.toNat).length = i := by rw [hmi]; simp; omega
  refine ⟨⟨by rw [hmi]; omega, by rw [hmi]; simp; omega⟩, fun r hr => by obtain ⟨t, _, rfl⟩ := List.mem_map.1 hr; rfl, ?_⟩
  refine SWp.loop (fun k : Nat => k ≤ i) (fun k => ([(10, iv (firstF (fun t : Vr => t.name == name) 0 p.mons[i].vars + nVars (p.mons.take k))), (34, .d (.sl ((p.mons.map Mo.c).take (monS p mon).1.toNat))), (35, iv ((p.mons.map Mo.c).take (monS p mon).1.toNat).length), (36, iv k)], [.box [.d (.sl (p.mons.map Mo.c)), .d (.sl (p.roles.map Ro.c))], .box [sv' name]])) (fun k => i - k) 0 (Nat.zero_le _) (Le.same ⟨sint (by simp [nVars]), rfl, rfl, rfl, trivial⟩) (fun k hk => ?_)
  refine SWp.go pok (by kernel_rfl) ?_
  refine brP_split (fun h => ?_) (fun h => ?_)
  · have hlt : k < i := by rw [hrl] at h; simpa using h
    have hkl : k < p.mons.length := by omega
    refine PIdx.at (x := Mo.c p.mons[k]) (by rw [List.getElem?_take, if_pos (by rw [hmi]; simpa using hlt)]; simp [hkl]) ?_
    have e1 := nVars_snoc hkl
    have e2 := nVars_le (l := p.mons) (k + 1)
    exact ⟨k + 1, hlt, by omega, .inr ⟨[0, 1], ⟨rfl, rfl⟩, rfl, sint (by rw [hf, wrap_in (by unfold R64; simp; omega)]; simp; omega), rfl, rfl, sint (wrap_nat k (by omega)), trivial⟩⟩
  · have hk' : k = i := by rw [hrl] at h; simp at h; omega
    subst hk'
    refine fin1 ?_
    rw [hs]; rfl
end Go.Proofs.Ytlafnhpmhflnaaa.Q
