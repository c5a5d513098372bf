/- A call of a function, out of its contract. No condition. -/
import Derived.Test.YtlafnhpmhflnaaaQl
set_option linter.unusedVariables false
set_option linter.unusedSectionVars false
set_option linter.unnecessarySimpa false
set_option linter.unusedSimpArgs false
namespace Go.Proofs.Ytlafnhpmhflnaaa.Q
variable [Amb]
section
variable {P : Program} {tt : TT} {o : Oper} {ρ : Env} {H : List Ob} {K : Eff → Prop}

/-- Where what is lent lies, by the callee's numbers. -/
def lentLoc (φ : Loc) (ids : List Nat) : Loc := fun i => match ids[i]? with
  | some j => φ j
  | none => fun _ => none
theorem lent_moves (φ : Loc) (ids : List Nat) : Moves (pos ids) φ (lentLoc φ ids) := fun id i hi n z hz => by
  unfold lentLoc; rw [pos_get hi]; exact hz
theorem lent_sit {G : Imm} {w : World} {φ : Loc} {Hx : Hp} {ids : List Nat} {h : List Ob} (hs : Sit G w φ Hx) (hnd : ids.Nodup) (ha : ∀ i, i ∈ ids → Hx i = H[i]?) (ho : obsAt H (pos ids) ids = some h) : Sit G w (lentLoc φ ids) (hp h) := by
  obtain ⟨hl, hg⟩ := obsAt_get ho
  have key : ∀ k ob', h[k]? = some ob' → ∃ i ob, ids[k]? = some i ∧ Hx i = some ob ∧ ob.ren (pos ids) = some ob' ∧ ∀ n, lentLoc φ ids k n = φ i n := by
    intro k ob' hk
    have hlt := lt_of_get hk
    rw [hl] at hlt
    have hi : ids[k]? = some ids[k] := List.getElem?_eq_getElem hlt
    obtain ⟨ob, ob2, g1, g2, g3⟩ := hg k _ hi
    rw [hk] at g3; injection g3 with g3; subst g3
    exact ⟨_, ob, hi, (ha _ (List.getElem_mem hlt)).trans g1, g2, fun n => by unfold lentLoc; rw [hi]⟩
  refine ⟨hs.inv, fun k ob' hk => ?_, fun k j ob1 ob2 b hkj h1 h2 o1 o2 => ?_, fun k hk n => ?_⟩
  · obtain ⟨i, ob, g1, g2, g3, g4⟩ := key k ob' hk
    exact Ob.ren_holds (lent_moves φ ids) g4 g3 (hs.holds i ob g2)
  · obtain ⟨i, ob, g1, g2, g3, g4⟩ := key k ob1 h1
    obtain ⟨i', ob', g1', g2', g3', g4'⟩ := key j ob2 h2
    rw [Ob.ren_own g4 g3] at o1
    rw [Ob.ren_own g4' g3'] at o2
    refine hs.dist i i' ob ob' b (fun e => hkj ?_) g2 g2' o1 o2
    subst e
    have l1 := lt_of_get g1
    have l2 := lt_of_get g1'
    rw [List.getElem?_eq_getElem l1] at g1
    rw [List.getElem?_eq_getElem l2] at g1'
    injection g1 with g1
    injection g1' with g1'
    exact (List.getElem_inj hnd).1 (g1.trans g1'.symm)
  · unfold lentLoc
    rw [List.getElem?_eq_none]
    have : h.length ≤ k := by
      rcases Nat.lt_or_ge k h.length with hlt | hge
      · rw [show hp h k = h[k]? from rfl, List.getElem?_eq_getElem hlt] at hk; cases hk
      · exact hge
    omega
theorem mem_pos : ∀ {ids : List Nat} {i : Nat}, i ∈ ids → ∃ k, pos ids i = some k := by
  intro ids i hm
  cases hp : pos ids i with
  | some k => exact ⟨k, rfl⟩
  | none => exact absurd hm (pos_none hp)
theorem lkO_zip : ∀ {ids : List Nat} {obs : List Ob} {i : Nat}, ids.length ≤ obs.length → lkO (ids.zip obs) i = match pos ids i with | some k => obs[k]? | none => none
  | [], obs, i, _ => by simp [lkO, pos]
  | j :: r, [], i, h => by simp at h
  | j :: r, ob :: obs, i, h => by
    rw [List.zip_cons_cons, lkO_cons]
    unfold pos
    by_cases hji : j = i
    · subst hji; simp
    · have : Nat.beq j i = false := by
        cases hb : Nat.beq j i with
        | false => rfl
        | true => exact absurd (Nat.eq_of_beq_eq_true hb) hji
      rw [if_neg hji, this]
      dsimp only [cond]
      rw [lkO_zip (ids := r) (by simpa using h)]
      cases pos r i <;> simp
/-- Where all lies behind the call, by the caller's numbers. -/
def backLoc (φ φc : Loc) (ids : List Nat) (base m : Nat) : Loc := fun j => match pos ids j with
  | some i => φc i
  | none => if base ≤ j ∧ j < base + m then φc (ids.length + (j - base)) else φ j
theorem call_back {G G' : Imm} {w w' : World} {φ φc : Loc} {Hx : Hp} {ids : List Nat} {h h' obs : List Ob} {x : V} (hs : Sit G w φ Hx) (hnd : ids.Nodup) (hlt : ∀ i ∈ ids, i < H.length) (ha : ∀ i, i ∈ ids → Hx i = H[i]?) (ho : obsAt H (pos ids) ids = some h)
    (hs' : Sit G' w' φc (hp h')) (hgo : Goes G w (lentLoc φ ids) (hp h) G' w' φc (hp h')) (hlen : h.length ≤ h'.length) (hob : obsRen (back ids H.length) h' = some obs) (hnew : ∀ i, H.length ≤ i → i < H.length + (obs.drop ids.length).length → Hx i = none) :
    Sit G' w' (backLoc φ φc ids H.length (obs.drop ids.length).length) (upd Hx H.length ⟨x, [], ids.zip obs, obs.drop ids.length⟩) ∧ Goes G w φ Hx G' w' (backLoc φ φc ids H.length (obs.drop ids.length).length) (upd Hx H.length ⟨x, [], ids.zip obs, obs.drop ids.length⟩) ∧ Moves (back ids H.length) φc (backLoc φ φc ids H.length (obs.drop ids.length).length) := by
  obtain ⟨hl, hg⟩ := obsAt_get ho
  obtain ⟨hol, hog⟩ := obsRen_get hob
  have hil : ids.length ≤ obs.length := by omega
  have hdl : (obs.drop ids.length).length = obs.length - ids.length := List.length_drop
  generalize hm : (obs.drop ids.length).length = m at *
  -- the caller's number j is the callee's number i
  have upd_lent : ∀ j i, pos ids j = some i → upd Hx H.length ⟨x, [], ids.zip obs, obs.drop ids.length⟩ j = obs[i]? := by
    intro j i hj
    have hi := lt_of_get (pos_get hj)
    simp only [upd, lkO_zip hil, hj]
    rw [List.getElem?_eq_getElem (by omega : i < obs.length)]
  have upd_new : ∀ j, pos ids j = none → H.length ≤ j → j < H.length + m → upd Hx H.length ⟨x, [], ids.zip obs, obs.drop ids.length⟩ j = obs[ids.length + (j - H.length)]? := by
    intro j hj h1 h2
    simp only [upd, lkO_zip hil, hj, hm]
    rw [if_pos ⟨h1, h2⟩, List.getElem?_drop]
  have upd_old : ∀ j, pos ids j = none → ¬ (H.length ≤ j ∧ j < H.length + m) → upd Hx H.length ⟨x, [], ids.zip obs, obs.drop ids.length⟩ j = Hx j := by
    intro j hj h1
    simp only [upd, lkO_zip hil, hj, hm]
    rw [if_neg h1]
  have loc_lent : ∀ j i, pos ids j = some i → backLoc φ φc ids H.length m j = φc i := fun j i hj => by unfold backLoc; rw [hj]
  have loc_new : ∀ j, pos ids j = none → H.length ≤ j → j < H.length + m → backLoc φ φc ids H.length m j = φc (ids.length + (j - H.length)) := fun j hj h1 h2 => by unfold backLoc; rw [hj]; exact if_pos ⟨h1, h2⟩
  have loc_old : ∀ j, pos ids j = none → ¬ (H.length ≤ j ∧ j < H.length + m) → backLoc φ φc ids H.length m j = φ j := fun j hj h1 => by unfold backLoc; rw [hj]; exact if_neg h1
  have posNew : ∀ j, H.length ≤ j → pos ids j = none := fun j hj => by
    cases hp : pos ids j with
    | none => rfl
    | some k => have := hlt j (List.mem_of_getElem? (pos_get hp)); omega
  have hbackloc : ∀ i, i < obs.length → ∃ j, back ids H.length i = some j ∧ backLoc φ φc ids H.length m j = φc i ∧ upd Hx H.length ⟨x, [], ids.zip obs, obs.drop ids.length⟩ j = obs[i]? := by
    intro i hi
    by_cases h1 : i < ids.length
    · have e1 : ids[i]? = some ids[i] := List.getElem?_eq_getElem h1
      obtain ⟨k, hk⟩ := mem_pos (List.getElem_mem h1)
      have e2 := pos_get hk
      have hki : k = i := by
        have l2 := lt_of_get e2
        rw [List.getElem?_eq_getElem l2] at e2
        injection e2 with e2
        exact (List.getElem_inj hnd).1 e2
      subst hki
      exact ⟨ids[k], by unfold back; rw [e1], loc_lent _ _ hk, upd_lent _ _ hk⟩
    · have e1 : ids[i]? = none := List.getElem?_eq_none (by omega)
      have hp := posNew (H.length + (i - ids.length)) (by omega)
      refine ⟨H.length + (i - ids.length), by unfold back; rw [e1], ?_, ?_⟩
      · rw [loc_new _ hp (by omega) (by omega)]; congr 1; omega
      · rw [upd_new _ hp (by omega) (by omega)]; congr 1; omega
  have hmov : Moves (back ids H.length) φc (backLoc φ φc ids H.length m) := by
    intro i j hij n z hz
    have hi : i < obs.length := by
      rcases Nat.lt_or_ge i obs.length with h1 | h1
      · exact h1
      · have := hs'.un i (List.getElem?_eq_none (by omega)) n
        rw [this] at hz; cases hz
    obtain ⟨j', e1, e2, _⟩ := hbackloc i hi
    rw [hij] at e1; injection e1 with e1; subst e1
    rw [e2]; exact hz
  -- what the touched objects are, in the callee's world
  have touched : ∀ j ob, ((∃ i, pos ids j = some i) ∨ (H.length ≤ j ∧ j < H.length + m)) → upd Hx H.length ⟨x, [], ids.zip obs, obs.drop ids.length⟩ j = some ob →
      ∃ (i : Nat) (obc : Ob), h'[i]? = some obc ∧ obc.ren (back ids H.length) = some ob ∧ (∀ n, backLoc φ φc ids H.length m j n = φc i n) ∧ back ids H.length i = some j := by
    intro j ob hj hob1
    have fin : ∀ i : Nat, obs[i]? = some ob → ∃ obc : Ob, h'[i]? = some obc ∧ obc.ren (back ids H.length) = some ob := by
      intro i hi
      have hi2 := lt_of_get hi
      obtain ⟨ob2, g1, g2⟩ := hog i h'[i] (List.getElem?_eq_getElem (by omega))
      rw [hi] at g2; injection g2 with g2; subst g2
      exact ⟨_, List.getElem?_eq_getElem (by omega), g1⟩
    rcases hj with ⟨i, hi⟩ | ⟨h1, h2⟩
    · rw [upd_lent j i hi] at hob1
      obtain ⟨obc, g1, g2⟩ := fin i hob1
      exact ⟨i, obc, g1, g2, fun n => by rw [loc_lent j i hi], by unfold back; rw [pos_get hi]⟩
    · rw [upd_new j (posNew j h1) h1 h2] at hob1
      obtain ⟨obc, g1, g2⟩ := fin _ hob1
      refine ⟨_, obc, g1, g2, fun n => by rw [loc_new j (posNew j h1) h1 h2], ?_⟩
      have e0 : ids[ids.length + (j - H.length)]? = none := List.getElem?_eq_none (by omega)
      unfold back
      rw [e0]
      show some (H.length + (ids.length + (j - H.length) - ids.length)) = some j
      rw [show H.length + (ids.length + (j - H.length) - ids.length) = j by omega]
  have hst := hs.step (G' := G') (w' := w') (φ' := backLoc φ φc ids H.length m) (H' := upd Hx H.length ⟨x, [], ids.zip obs, obs.drop ids.length⟩) (fun j => (∃ i, pos ids j = some i) ∨ (H.length ≤ j ∧ j < H.length + m)) hgo.le
    (fun j n z hz => by
      cases hp : pos ids j with
      | some i =>
        rw [loc_lent j i hp]
        refine hgo.ple i n z ?_
        unfold lentLoc; rw [pos_get hp]; exact hz
      | none =>
        by_cases hj : H.length ≤ j ∧ j < H.length + m
        · have := hs.un j (hnew j hj.1 hj.2) n
          rw [this] at hz; cases hz
        · rw [loc_old j hp hj]; exact hz)
    (fun j hj n => by
      have h1 : pos ids j = none := by
        cases hp : pos ids j with
        | none => rfl
        | some i => exact absurd (Or.inl ⟨i, hp⟩) hj
      rw [loc_old j h1 (fun h2 => hj (.inr h2))])
    hgo.os hgo.tape hgo.output hgo.size
    (fun b hb hno => hgo.block b hb (fun ⟨i, obc, hi, hown⟩ => by
      have hi1 := lt_of_get hi
      have hi2 : i < ids.length := by omega
      have e1 : ids[i]? = some ids[i] := List.getElem?_eq_getElem hi2
      obtain ⟨ob, ob', g1, g2, g3⟩ := hg i _ e1
      have hi' : h[i]? = some obc := hi
      rw [hi'] at g3; injection g3 with g3; subst g3
      obtain ⟨k, hk⟩ := mem_pos (List.getElem_mem hi2)
      refine hno ids[i] ob (.inl ⟨k, hk⟩) ((ha _ (List.getElem_mem hi2)).trans g1) ?_
      rw [← Ob.ren_own (φ2 := lentLoc φ ids) (i := i) (fun n => by unfold lentLoc; rw [e1]) g2]
      exact hown))
    (fun j hj => by
      have h1 : pos ids j = none := by
        cases hp : pos ids j with
        | none => rfl
        | some i => exact absurd (Or.inl ⟨i, hp⟩) hj
      exact upd_old j h1 (fun h2 => hj (.inr h2)))
    hs'.inv
    (fun j ob hj hob1 => by
      obtain ⟨i, obc, g1, g2, g3, g4⟩ := touched j ob hj hob1
      exact Ob.ren_holds hmov g3 g2 (hs'.holds i obc g1))
    (fun j1 j2 ob1 ob2 b hj1 hj2 hne h1 h2 o1 o2 => by
      obtain ⟨i1, c1, a1, a2, a3, a4⟩ := touched j1 ob1 hj1 h1
      obtain ⟨i2, c2, b1, b2, b3, b4⟩ := touched j2 ob2 hj2 h2
      rw [Ob.ren_own a3 a2] at o1
      rw [Ob.ren_own b3 b2] at o2
      exact hs'.dist i1 i2 c1 c2 b (fun e => hne (by rw [e, b4] at a4; injection a4 with a4; exact a4.symm)) a1 b1 o1 o2)
    (fun j ob b hj h1 o1 => by
      obtain ⟨i, c, a1, a2, a3, a4⟩ := touched j ob hj h1
      rw [Ob.ren_own a3 a2] at o1
      rcases hgo.owns b ⟨i, c, a1, o1⟩ with ⟨k, obc, hk, hown⟩ | hge
      · have hk1 := lt_of_get hk
        have hk2 : k < ids.length := by omega
        have e1 : ids[k]? = some ids[k] := List.getElem?_eq_getElem hk2
        obtain ⟨ob0, ob', g1, g2, g3⟩ := hg k _ e1
        have hk' : h[k]? = some obc := hk
        rw [hk'] at g3; injection g3 with g3; subst g3
        obtain ⟨k', hk''⟩ := mem_pos (List.getElem_mem hk2)
        refine .inl ⟨ids[k], ob0, .inl ⟨k', hk''⟩, (ha _ (List.getElem_mem hk2)).trans g1, ?_⟩
        rw [← Ob.ren_own (φ2 := lentLoc φ ids) (i := k) (fun n => by unfold lentLoc; rw [e1]) g2]
        exact hown
      · exact .inr hge)
    (fun j hj h1 n => by
      exfalso
      rcases hj with ⟨i, hi⟩ | ⟨a1, a2⟩
      · rw [upd_lent j i hi] at h1
        have := lt_of_get (pos_get hi)
        rw [List.getElem?_eq_getElem (by omega : i < obs.length)] at h1; cases h1
      · rw [upd_new j (posNew j a1) a1 a2, List.getElem?_eq_getElem (by omega)] at h1; cases h1)
  exact ⟨hst.1, hst.2, hmov⟩
end
end Go.Proofs.Ytlafnhpmhflnaaa.Q
