/- Types: the checker's small functions. No condition. -/
import Derived.Test.YtlafnhpmhflnaaaQzr
set_option linter.unusedVariables false
set_option linter.unusedSectionVars false
set_option linter.unnecessarySimpa false
set_option linter.unusedSimpArgs false
set_option maxRecDepth 100000
set_option maxHeartbeats 4000000
namespace Go.Proofs.Ytlafnhpmhflnaaa.Q
open Go.RowKit
/-- A program that fits into memory. -/
def Pg.fits (p : Pg) : Prop := p.mons.length < 1073741824 ∧ nVars p.mons < 1073741824
/-- The checker of a program, with the first error and its place. -/
def chkB (p : Pg) (s : Int × Int) : Ob := .box [.d (.sl (p.mons.map Mo.c)), .d (.sl (p.roles.map Ro.c)), .d (.sl ((slotsS p.mons).map Vr.c)), iv s.1, iv s.2]
def failS (s : Int × Int) (e pl : Int) : Int × Int := if s.1 = 0 then (e, pl) else s
def sortL : List (Int × Int) := [(0, 0), (2, 0), (1, 0), (1, 0), (0, 0), (1, 1), (2, 2), (2, 2), (2, 2), (2, 2), (1, 0), (1, 0), (1, 2), (1, 2), (1, 2), (1, 2), (1, 1), (1, 1)]
/-- What an expression of a kind is, and what its parts must be. -/
def sortS (op : Int) : Int × Int := sortL.getD op.toNat (0, 0)
/-- What a variable is. -/
def varS (p : Pg) (mon name : Str) : Int × Bool :=
  if (slotS p mon name).2 = true then match (slotsS p.mons)[(slotS p mon name).1.toNat]? with
    | some v => (if v.type = 1 then 1 else 2, true)
    | none => (0, false)
  else (0, false)
theorem slotS_lt [Amb] {p : Pg} {mon name : Str} (h : (slotS p mon name).2 = true) : 0 ≤ (slotS p mon name).1 ∧ (slotS p mon name).1 < nVars p.mons := by
  unfold slotS at h ⊢
  by_cases h1 : (monS p mon).2 = true
  · rw [if_pos h1] at h ⊢
    cases hm : p.mons[(monS p mon).1.toNat]? with
    | none => rw [hm] at h; cases h
    | some m =>
      rw [hm] at h
      dsimp only at h ⊢
      by_cases h2 : firstF (fun t : Vr => t.name == name) 0 m.vars < 0
      · rw [if_pos h2] at h; cases h
      · rw [if_neg h2]
        have hlt := lt_of_get hm
        have e := firstF_lt (fun t : Vr => t.name == name) m.vars 0
        have e1 := nVars_snoc hlt
        have e2 := nVars_le (l := p.mons) ((monS p mon).1.toNat + 1)
        have e3 : p.mons[(monS p mon).1.toNat] = m := by rw [List.getElem?_eq_getElem hlt] at hm; injection hm
        rw [e3] at e1
        simp only
        omega
  · rw [if_neg h1] at h; cases h
variable [Amb]
theorem fail_c (p : Pg) (s : Int × Int) (e pl : Int) : PFun Try.prog 70 [.ptr 0 0, iv e, iv pl] [chkB p s] (.tup []) [chkB p (failS s e pl)] := by
  refine fn_sem pok 19 1 Try.func70 (by kernel_rfl) rfl rfl rfl rfl ?_
  refine SWp.go pok (by kernel_rfl) ?_
  refine brP_split (fun h => ?_) (fun h => ?_)
  · have h : s.1 = 0 := by simpa using h
    exact ⟨rfl, by unfold failS; rw [if_pos h]; rfl⟩
  · have h : ¬ s.1 = 0 := by simpa using h
    exact ⟨rfl, by unfold failS; rw [if_neg h]; rfl⟩
theorem sortOf_c (op : Int) (h0 : 0 ≤ op) (h1 : op < 18) : PFun Try.prog 71 [iv op] [] (.agg [iv (sortS op).1, iv (sortS op).2]) [] := by
  refine fn_sem pok 24 0 Try.func71 (by kernel_rfl) rfl rfl rfl rfl ?_
  have : op = 0 ∨ op = 1 ∨ op = 2 ∨ op = 3 ∨ op = 4 ∨ op = 5 ∨ op = 6 ∨ op = 7 ∨ op = 8 ∨ op = 9 ∨ op = 10 ∨ op = 11 ∨ op = 12 ∨ op = 13 ∨ op = 14 ∨ op = 15 ∨ op = 16 ∨ op = 17 := by omega
  rcases this with rfl | rfl | rfl | rfl | rfl | rfl | rfl | rfl | rfl | rfl | rfl | rfl | rfl | rfl | rfl | rfl | rfl | rfl <;>
  · refine SWp.go pok (by kernel_rfl) ?_
    exact ⟨by decide, fin1 rfl⟩
theorem variable_c (p : Pg) (s : Int × Int) (mon name : Str) (hp : p.fits) : PFun Try.prog 69 [.ptr 0 0, sv' mon, sv' name] [chkB p s] (ib (varS p mon name)) [chkB p s] := by
  refine fn_sem pok 31 1 Try.func69 (by kernel_rfl) rfl rfl rfl rfl ?_
  refine SWp.go pok (by kernel_rfl) ?_
  refine PFun.call (namesSlot_c p mon name hp.1 hp.2) ?_
  refine brP_split (fun h => ?_) (fun h => ?_)
  · have h : ¬ (slotS p mon name).2 = true := by simpa using h
    exact ⟨by unfold varS; rw [if_neg h]; rfl, rfl⟩
  · have h : (slotS p mon name).2 = true := by simpa using h
    have hl := slotS_lt h
    rw [← slotsS_len] at hl
    obtain ⟨i, hi⟩ := Int.eq_ofNat_of_zero_le hl.1
    have hil : i < (slotsS p.mons).length := by omega
    have hv : varS p mon name = (if (slotsS p.mons)[i].type = 1 then 1 else 2, true) := by
      unfold varS; rw [if_pos h, hi]; simp [hil]
    refine PIdx.map' hi (get_at hil) ?_
    refine brP_split (fun h2 => ?_) (fun h2 => ?_)
    · have h2 : (slotsS p.mons)[i].type = 1 := by simpa using h2
      exact ⟨by rw [hv, if_pos h2]; rfl, rfl⟩
    · have h2 : ¬ (slotsS p.mons)[i].type = 1 := by simpa using h2
      exact ⟨by rw [hv, if_neg h2]; rfl, rfl⟩
theorem newChecker_c (p : Pg) (hp : p.fits) : PFun Try.prog 55 [p.v] [] (.ptr 0 0) [chkB p (0, 0)] := by
  refine fn_sem pok 8 0 Try.func55 (by kernel_rfl) rfl rfl rfl rfl ?_
  refine SWp.go pok (by kernel_rfl) ?_
  refine ⟨_, _, namesSlots_c p hp.1 hp.2, ?_⟩
  exact ⟨rfl, rfl⟩
end Go.Proofs.Ytlafnhpmhflnaaa.Q
