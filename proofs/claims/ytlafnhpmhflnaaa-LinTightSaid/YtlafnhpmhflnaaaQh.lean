/- New variables, structs and slices; appending. No condition. -/
import Derived.Test.YtlafnhpmhflnaaaQg
set_option linter.unusedVariables false
set_option linter.unusedSectionVars false
set_option linter.unnecessarySimpa false
set_option linter.unusedSimpArgs false
namespace Go.Proofs.Ytlafnhpmhflnaaa.Q
variable [Amb]
section
variable {P : Program} {tt : TT} {o : Oper} {ρ : Env} {H : List Ob} {K : Eff → Prop}

/-! ### variables -/
def pAlloc (tt : TT) (t : TypeId) (H : List Ob) (K : Eff → Prop) : Prop :=
  match tt t with
  | some e => match e.zero with
    | some z => condP z.cellB (K ⟨.ptr H.length 0, [], [], [.box z.cells]⟩)
    | none => False
  | none => False
theorem pAlloc_sem (htt : TTok P tt) {t : TypeId} (ho : o.op = .alloc t) (h : pAlloc tt t H K) : ∃ e, K e ∧ Tri P o ρ H e := by
  unfold pAlloc at h
  split at h
  · rename_i e he
    split at h
    · rename_i z hz
      obtain ⟨hc, h⟩ := condP_out h
      refine ⟨_, h, tri_box fun a G w φ hr => ?_⟩
      obtain ⟨v, h1, h2, _⟩ := run_zero (P := P) w htt he hz
      obtain ⟨r1, r2⟩ := V.cells_rep' (h2 G φ) hc
      refine ⟨v.cells.toList, t, ?_, r1, r2⟩
      unfold execOp
      rw [ho]
      simp [Instr.alloc, h1, newVar, newRow]
    · exact h.elim
  · exact h.elim
def pBox (X : V) (H : List Ob) (K : Eff → Prop) : Prop := condP X.cellB (K ⟨.ptr H.length 0, [], [], [.box X.cells]⟩)
theorem pBox_sem {t : TypeId} {x : Operand} {X : V} (ho : o.op = .box t x) (hx : ev ρ x = some X) (h : pBox X H K) : ∃ e, K e ∧ Tri P o ρ H e := by
  have hox : x ∈ o.op.operands := by rw [ho]; simp [Op.operands]
  obtain ⟨hc, h⟩ := condP_out h
  refine ⟨_, h, tri_box fun a G w φ hr => ?_⟩
  obtain ⟨r1, r2⟩ := V.cells_rep' (hr x _ hox hx) hc
  refine ⟨(a.eval x).cells.toList, t, ?_, r1, r2⟩
  unfold execOp
  rw [ho]
  simp [Instr.box, newVar, newRow]

/-! ### structs by value -/
def evParts (ρ : Env) : List (Nat × Operand) → Option (List (Nat × V))
  | [] => some []
  | (i, x) :: r => match ev ρ x with
    | some X => match evParts ρ r with
      | some xs => some ((i, X) :: xs)
      | none => none
    | none => none
def fillV (place : Nat → Option (Nat × Nat)) (cells : List V) : List (Nat × V) → Option (List V)
  | [] => some cells
  | (i, x) :: r => match place i with
    | some (off, size) => bif x.cellB && Nat.beq x.cells.length size && Nat.ble (off + size) cells.length then fillV place (cells.take off ++ x.cells ++ cells.drop (off + size)) r else none
    | none => none
theorem fold_set (off : Nat) : ∀ (vs : List Value) (k : Nat) (cs : Array Value), off + k + vs.length ≤ cs.size →
    ((vs.zipIdx k).foldl (fun cs (x : Value × Nat) => cs.setIfInBounds (off + x.2) x.1) cs).toList = cs.toList.take (off + k) ++ vs ++ cs.toList.drop (off + k + vs.length)
  | [], k, cs, h => by simp
  | v :: vs, k, cs, h => by
    rw [List.length_cons] at h
    rw [List.zipIdx_cons, List.foldl_cons, fold_set off vs (k + 1) _ (by simp; omega)]
    apply List.ext_getElem?
    intro j
    rw [List.length_cons, mid_get _ vs (off + (k + 1)) vs.length rfl (by simp; omega), mid_get cs.toList (v :: vs) (off + k) (vs.length + 1) rfl (by simp; omega)]
    simp only [Array.toList_setIfInBounds, List.getElem?_set, Array.length_toList]
    by_cases h1 : j < off + k
    · rw [if_pos (by omega), if_pos h1, if_neg (by omega)]
    · rw [if_neg h1]
      by_cases h2 : j = off + k
      · subst h2
        rw [if_pos (by omega), if_pos rfl, if_pos (by omega), if_pos (by omega)]
        simp
      · rw [if_neg (by omega)]
        by_cases h3 : j < off + k + (vs.length + 1)
        · rw [if_pos (by omega), if_pos h3, show j - (off + k) = (j - (off + (k + 1))) + 1 by omega]
          simp
        · rw [if_neg (by omega), if_neg h3, if_neg (by omega)]
theorem fill_rep {place : Nat → Option (Nat × Nat)} {G : Imm} {φ : Loc} (a : Act) : ∀ {parts : List (Nat × Operand)} {xs : List (Nat × V)} {cells cells' : List V} {us : Array Value},
    (∀ p ∈ parts, ∀ X, ev ρ p.2 = some X → X.rep G φ (a.eval p.2)) → evParts ρ parts = some xs → fillV place cells xs = some cells' → repVs G φ cells us.toList → (∀ u ∈ us.toList, u.oneCell' = true) →
    ∃ us' : Array Value, Instr.fill place us (parts.map fun p => (p.1, a.eval p.2)) = some us' ∧ repVs G φ cells' us'.toList ∧ ∀ u ∈ us'.toList, u.oneCell' = true
  | [], xs, cells, cells', us, hm, h1, h2, h3, h4 => by
    simp [evParts] at h1; subst h1
    simp [fillV] at h2; subst h2
    exact ⟨us, rfl, h3, h4⟩
  | (i, x) :: r, xs, cells, cells', us, hm, h1, h2, h3, h4 => by
    unfold evParts at h1
    split at h1
    · rename_i X hX
      split at h1
      · rename_i ys hys
        injection h1 with h1; subst h1
        unfold fillV at h2
        split at h2
        · rename_i off size hp
          cases hcond : (X.cellB && Nat.beq X.cells.length size && Nat.ble (off + size) cells.length) with
          | false => rw [hcond] at h2; cases h2
          | true =>
            rw [hcond] at h2
            simp only [Bool.and_eq_true] at hcond
            obtain ⟨⟨c1, c2⟩, c3⟩ := hcond
            have c2 := Nat.eq_of_beq_eq_true c2
            have c3 := Nat.le_of_ble_eq_true c3
            have hrep : X.rep G φ (a.eval x) := hm (i, x) List.mem_cons_self X hX
            obtain ⟨r1, r2⟩ := V.cells_rep' hrep c1
            have hl := repVs_len r1
            have hl3 := repVs_len h3
            have hsz : (a.eval x).cells.size = size := by have : (a.eval x).cells.toList.length = size := by omega
                                                          simpa using this
            have hfold := fold_set off (a.eval x).cells.toList 0 us (by simp at hl3 ⊢; omega)
            have := fill_rep a (place := place) (us := ((a.eval x).cells.toList.zipIdx 0).foldl (fun cs (x : Value × Nat) => cs.setIfInBounds (off + x.2) x.1) us) (fun p hp => hm p (List.mem_cons_of_mem _ hp)) hys h2
              (by rw [hfold]; simp only [Nat.add_zero, Array.length_toList, hsz]; exact repVs_append (repVs_append (repVs_take h3 _) r1) (repVs_drop h3 _))
              (by rw [hfold]; intro u hu
                  simp only [List.mem_append] at hu
                  rcases hu with (hu | hu) | hu
                  · exact h4 u (List.mem_of_mem_take hu)
                  · exact r2 u hu
                  · exact h4 u (List.mem_of_mem_drop hu))
            obtain ⟨us', g1, g2, g3⟩ := this
            refine ⟨us', ?_, g2, g3⟩
            rw [List.map_cons, Instr.fill, hp]
            have hcs : ¬ (off + (a.eval x).cells.size > us.size) := by simp at hl3; omega
            simp only [hsz, ne_eq, not_true_eq_false, decide_false, Bool.false_or, hcs]
            rw [← Array.foldl_toList, Array.toList_zipIdx]
            simp only [hsz] at hcs
            rw [if_neg (by simpa using hcs)]
            exact g1
        · cases h2
      · cases h1
    · cases h1
end
end Go.Proofs.Ytlafnhpmhflnaaa.Q
