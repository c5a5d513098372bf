/- A slice that is as long as its room, as one that grows. No condition. -/
import Derived.Test.YtlafnhpmhflnaaaQs
set_option linter.unusedVariables false
set_option linter.unusedSectionVars false
set_option linter.unnecessarySimpa false
set_option linter.unusedSimpArgs false
namespace Go.Proofs.Ytlafnhpmhflnaaa.Q
variable [Amb]
section
variable {P : Program} {tt : TT} {n : Nat} {k : Md} {ρ : Env} {H : List Ob} {Q : Post}
theorem hp_snoc (H : List Ob) (ob : Ob) (i : Nat) : hp (H ++ [ob]) i = if i = H.length then some ob else hp H i := by
  unfold hp
  rw [List.getElem?_append]
  by_cases h : i < H.length
  · rw [if_pos h, if_neg (by omega)]
  · rw [if_neg h]
    by_cases e : i = H.length
    · subst e; simp
    · rw [if_neg e, List.getElem?_eq_none (by simp; omega), List.getElem?_eq_none (by omega)]
theorem tip_own (φ : Loc) (i e m : Nat) (A : Option (Nat × Nat)) (b : Nat) : Owns (setLoc φ i m (A, m)) i (.tip e m) b = False := by
  simp only [Owns, own, setLoc_same]
  cases A with
  | none => simp
  | some p => simp
theorem Sit.tip {G : Imm} {w : World} {φ : Loc} (hs : Sit G w φ (hp H)) (e m : Nat) (A : Option (Nat × Nat)) : Sit G w (setLoc φ H.length m (A, m)) (hp (H ++ [Ob.tip e m])) := by
  have hn : hp H H.length = none := by simp [hp]
  have hφ := hs.un _ hn
  have hple : φ.le (setLoc φ H.length m (A, m)) := setLoc_le (hφ m)
  have hown : ∀ i ob, i ≠ H.length → Owns (setLoc φ H.length m (A, m)) i ob = Owns φ i ob := fun i ob hi => own_le fun q => setLoc_ne hi
  refine ⟨hs.inv, fun i ob hi => ?_, fun i j ob ob' b hij hi hj hbi hbj => ?_, fun i hi q => ?_⟩
  · rw [hp_snoc] at hi
    split at hi
    · rename_i he
      subst he
      injection hi with hi; subst hi
      exact ⟨A, m, setLoc_same .., Nat.le_refl _, fun q hq => by
        unfold setLoc
        rw [if_neg (by omega)]
        exact hφ q, fun hc => absurd hc (by omega)⟩
    · rename_i he
      exact (hs.holds i ob hi).keep (Imm.le.refl _) hple (fun q => setLoc_ne he) (fun b _ => ⟨rfl, fun _ => rfl⟩)
  · rw [hp_snoc] at hi hj
    split at hi
    · rename_i he; subst he
      injection hi with hi; subst hi
      rw [tip_own] at hbi; cases hbi
    · rename_i he
      split at hj
      · rename_i he'; subst he'
        injection hj with hj; subst hj
        rw [tip_own] at hbj; cases hbj
      · rename_i he'
        rw [hown i ob he] at hbi
        rw [hown j ob' he'] at hbj
        exact hs.dist i j ob ob' b hij hi hj hbi hbj
  · rw [hp_snoc] at hi
    split at hi
    · cases hi
    · rename_i he
      rw [setLoc_ne he]
      exact hs.un i hi q
theorem Goes.tip {G1 G : Imm} {w1 w : World} {φ1 φ : Loc} {H1 : Hp} (hs : Sit G w φ (hp H)) (hg : Goes G1 w1 φ1 H1 G w φ (hp H)) (e m : Nat) (A : Option (Nat × Nat)) : Goes G1 w1 φ1 H1 G w (setLoc φ H.length m (A, m)) (hp (H ++ [Ob.tip e m])) := by
  have hn : hp H H.length = none := by simp [hp]
  refine ⟨hg.le, hg.ple.trans (setLoc_le (hs.un _ hn m)), hg.os, hg.tape, hg.output, hg.size, hg.block, fun b hb => ?_⟩
  obtain ⟨i, ob, hi, ho⟩ := hb
  rw [hp_snoc] at hi
  split at hi
  · rename_i he; subst he
    injection hi with hi; subst hi
    rw [tip_own] at ho; cases ho
  · rename_i he
    exact hg.owns b ⟨i, ob, hi, by rw [own_le (φ := φ) (φ' := setLoc φ H.length m (A, m)) (fun q => setLoc_ne he)] at ho; exact ho⟩
/-- A slot's slice, as long as its room: it may grow. -/
theorem SWp.tipSlot {c : Code} (t e : Nat) {rows : List (List D)} (ht : lk ρ t = some (.fsl rows)) (h : SWp P n k c ((t, .gsl rows H.length) :: ρ) (H ++ [Ob.tip e rows.length]) Q) : SWp P n k c ρ H Q := by
  intro G1 w1 φ1 H1 G w φ a Qc h0 hr hg hQ
  obtain ⟨v, hv, A, rfl, hA⟩ := hr.env t _ ht
  have hple : φ.le (setLoc φ H.length rows.length (A, rows.length)) := setLoc_le (hr.sit.un _ (by simp [hp]) _)
  refine h G1 w1 φ1 H1 G w (setLoc φ H.length rows.length (A, rows.length)) a Qc h0 ⟨hr.sit.tip e rows.length A, fun u x hx => ?_, hr.size⟩ (hg.trans (Goes.tip hr.sit (Goes.refl _ _ _ _) e rows.length A) rfl) hQ
  rw [lk_put] at hx
  split at hx
  · rename_i hu; subst hu
    injection hx with hx; subst hx
    exact ⟨_, hv, A, rows.length, setLoc_same .., rfl, Nat.le_refl _, hA⟩
  · obtain ⟨v, h1, h2⟩ := hr.env u x hx
    exact ⟨v, h1, x.rep_mono (Imm.le.refl _) hple v h2⟩
theorem hp_set {H : List Ob} {i : Nat} {ob : Ob} (h : i < H.length) (j : Nat) : hp (H.set i ob) j = if j = i then some ob else hp H j := by
  unfold hp
  rw [List.getElem?_set]
  by_cases e : i = j
  · subst e; simp [h]
  · rw [if_neg e, if_neg (Ne.symm e)]
theorem Goes.retell {G1 G : Imm} {w1 w : World} {φ1 φ : Loc} {H1 : Hp} (hg : Goes G1 w1 φ1 H1 G w φ (hp H)) (i : Nat) {cells cells' : List V} (hi : H[i]? = some (.box cells)) : Goes G1 w1 φ1 H1 G w φ (hp (H.set i (.box cells'))) := by
  refine ⟨hg.le, hg.ple, hg.os, hg.tape, hg.output, hg.size, hg.block, fun b hb => ?_⟩
  obtain ⟨j, ob, hj, ho⟩ := hb
  rw [hp_set (lt_of_get hi)] at hj
  split at hj
  · rename_i he; subst he
    injection hj with hj; subst hj
    exact hg.owns b ⟨j, _, hi, ho⟩
  · exact hg.owns b ⟨j, ob, hj, ho⟩
/-- A box's slice, as long as its room: it may grow. -/
theorem SWp.tipBox {c : Code} (i j e : Nat) {cells : List V} {rows : List (List D)} (hi : H[i]? = some (.box cells)) (hj : cells[j]? = some (.fsl rows)) (h : SWp P n k c ρ ((H ++ [Ob.tip e rows.length]).set i (.box (cells.set j (.gsl rows H.length)))) Q) : SWp P n k c ρ H Q := by
  intro G1 w1 φ1 H1 G w φ a Qc h0 hr hg hQ
  obtain ⟨b, c', T, us, h1, h2, h3, h4, h5⟩ := hr.sit.holds i _ hi
  obtain ⟨v, hv, A, rfl, hA⟩ := repVs_get h3 j _ hj
  have hlt := lt_of_get hi
  have hple : φ.le (setLoc φ H.length rows.length (A, rows.length)) := setLoc_le (hr.sit.un _ (by simp [hp]) _)
  have hi' : (H ++ [Ob.tip e rows.length])[i]? = some (.box cells) := by rw [List.getElem?_append, if_pos hlt]; exact hi
  have hs' := hr.sit.tip e rows.length A
  have hφi : setLoc φ H.length rows.length (A, rows.length) i 0 = φ i 0 := setLoc_ne (by omega)
  have hs2 : Sit G w (setLoc φ H.length rows.length (A, rows.length)) (hp ((H ++ [Ob.tip e rows.length]).set i (.box (cells.set j (.gsl rows H.length))))) := by
    refine ⟨hs'.inv, fun l ob hl => ?_, fun i' l ob ob' b hij hi2 hl hbi hbl => ?_, fun l hl q => ?_⟩
    · rw [hp_set (by simp; omega)] at hl
      split at hl
      · rename_i he; subst he
        injection hl with hl; subst hl
        refine ⟨b, c', T, us, by rw [hφi]; exact h1, h2, ?_, h4, h5⟩
        refine repVs_of (by simp [repVs_len h3]) fun m x u hm hu => ?_
        rw [List.getElem?_set] at hm
        split at hm
        · rename_i hjm; subst hjm
          split at hm
          · injection hm with hm; subst hm
            rw [hv] at hu; injection hu with hu; subst hu
            exact ⟨A, rows.length, setLoc_same .., rfl, Nat.le_refl _, hA⟩
          · cases hm
        · obtain ⟨u', e1, e2⟩ := repVs_get h3 m x hm
          rw [e1] at hu; injection hu with hu; subst hu
          exact x.rep_mono (Imm.le.refl _) hple _ e2
      · exact hs'.holds l ob hl
    · have key : ∀ j' ob b, hp ((H ++ [Ob.tip e rows.length]).set i (.box (cells.set j (.gsl rows H.length)))) j' = some ob → Owns (setLoc φ H.length rows.length (A, rows.length)) j' ob b → ∃ ob0, hp (H ++ [Ob.tip e rows.length]) j' = some ob0 ∧ Owns (setLoc φ H.length rows.length (A, rows.length)) j' ob0 b := by
        intro j' ob b hj' hb
        rw [hp_set (by simp; omega)] at hj'
        split at hj'
        · rename_i he; subst he
          injection hj' with hj'; subst hj'
          exact ⟨_, hi', hb⟩
        · exact ⟨ob, hj', hb⟩
      obtain ⟨o1, a1, a2⟩ := key _ _ _ hi2 hbi
      obtain ⟨o2, b1, b2⟩ := key _ _ _ hl hbl
      exact hs'.dist i' l o1 o2 b hij a1 b1 a2 b2
    · rw [hp_set (by simp; omega)] at hl
      split at hl
      · cases hl
      · exact hs'.un l hl q
  refine h G1 w1 φ1 H1 G w (setLoc φ H.length rows.length (A, rows.length)) a Qc h0 ⟨hs2, fun u x hx => ?_, hr.size⟩ (hg.trans ((Goes.tip hr.sit (Goes.refl _ _ _ _) e rows.length A).retell i hi') rfl) hQ
  obtain ⟨v, h1, h2⟩ := hr.env u x hx
  exact ⟨v, h1, x.rep_mono (Imm.le.refl _) hple v h2⟩
/-- An array that is written no more: its cells are known for good. -/
theorem Sit.freeze {G : Imm} {w : World} {φ : Loc} (hs : Sit G w φ (hp H)) (i : Nat) {e : Nat} {rows : List (List D)} (hi : H[i]? = some (.parr e rows)) :
    ∃ G' : Imm, G.le G' ∧ Sit G' w φ (hp (H.set i .dead)) ∧ (∀ v, (V.arr i 0 rows.length).rep G φ v → (V.d (.sl rows)).rep G' φ v) ∧
      ∀ G1 w1 φ1 H1, Goes G1 w1 φ1 H1 G w φ (hp H) → Goes G1 w1 φ1 H1 G' w φ (hp (H.set i .dead)) := by
  obtain ⟨b, T, us, h1, h2, h3, h4, h5⟩ := hs.holds i _ hi
  have hlt := lt_of_get hi
  have hown : Owns φ i (.parr e rows) b := by simp [Owns, own, h1]
  have hG : ∀ b', b' ≠ b → ∀ o, addBlk G b us b' o = G b' o := fun b' hb o => by unfold addBlk; rw [if_neg hb]
  have hle : G.le (addBlk G b us) := addBlk_le h5 us
  have hset : ∀ j ob, hp (H.set i .dead) j = some ob → (j = i ∧ ob = .dead) ∨ (j ≠ i ∧ hp H j = some ob) := fun j ob hj => by
    rw [hp_set hlt] at hj
    split at hj
    · rename_i he; injection hj with hj; exact .inl ⟨he, hj.symm⟩
    · rename_i he; exact .inr ⟨he, hj⟩
  refine ⟨addBlk G b us, hle, ⟨fun b' o v hg => ?_, fun j ob hj => ?_, fun j j' ob ob' b' hjj hj hj' hb hb' => ?_, fun j hj q => ?_⟩, ?_, fun G1 w1 φ1 H1 hg => ?_⟩
  · unfold addBlk at hg
    split at hg
    · rename_i hb; subst hb
      rw [cell_us w h2]; exact hg
    · exact hs.inv b' o v hg
  · rcases hset j ob hj with ⟨rfl, rfl⟩ | ⟨hne, hj⟩
    · trivial
    · refine (hs.holds j ob hj).keep hle (Loc.le.refl _) (fun _ => rfl) fun b' hb => ⟨rfl, hG b' fun e' => ?_⟩
      subst e'
      exact hs.dist j i ob _ b' hne hj hi hb hown
  · rcases hset j ob hj with ⟨rfl, rfl⟩ | ⟨hne, hj⟩
    · simp [Owns, own] at hb
    · rcases hset j' ob' hj' with ⟨rfl, rfl⟩ | ⟨hne', hj'⟩
      · simp [Owns, own] at hb'
      · exact hs.dist j j' ob ob' b' hjj hj hj' hb hb'
  · rw [hp_set hlt] at hj
    split at hj
    · cases hj
    · exact hs.un j hj q
  · rintro v ⟨b', c, k1, k, k2, rfl⟩
    rw [h1] at k1; injection k1 with k1; injection k1 with k1 k1'; injection k1 with k1; injection k1 with k1; subst k1; subst k1'
    refine ⟨some ⟨b, 0, none⟩, k, by simp, k2, fun _ => ⟨b, 0, e, rfl, repRows_of fun m r hm => ⟨(h4 m r hm).1, repRow_of fun j d hj => ?_⟩⟩⟩
    obtain ⟨u, u1, u2⟩ := (h4 m r hm).2 j d hj
    refine ⟨u, ?_, d.rep_mono hle u u2⟩
    unfold addBlk
    rw [if_pos rfl, Nat.zero_add]; exact u1
  · refine ⟨hg.le.trans hle, hg.ple, hg.os, hg.tape, hg.output, hg.size, fun b' hb hn => ⟨(hg.block b' hb hn).1, fun o => ?_⟩, fun b' hb => ?_⟩
    · have hne : b' ≠ b := fun e' => by
        subst e'
        rcases hg.owns b' ⟨i, _, hi, hown⟩ with h | h
        · exact hn h
        · omega
      rw [hG b' hne o]; exact (hg.block b' hb hn).2 o
    · obtain ⟨j, ob, hj, ho⟩ := hb
      rcases hset j ob hj with ⟨rfl, rfl⟩ | ⟨hne, hj⟩
      · simp [Owns, own] at ho
      · exact hg.owns b' ⟨j, ob, hj, ho⟩
/-- A call that is given an array and only reads it. -/
theorem PCalls.freeze {f : FuncId} {args : List V} {h : List Ob} {R : V → List Ob → Prop} (j i : Nat) {e : Nat} {rows : List (List D)} (hj : args[j]? = some (.arr i 0 rows.length)) (hi : h[i]? = some (.parr e rows))
    (c : PCalls P f (args.set j (.d (.sl rows))) (h.set i .dead) R) : PCalls P f args h R := by
  refine ⟨c.1, fun G w φ vs hs hr => ?_⟩
  obtain ⟨G', hle, hs', hv, hg⟩ := hs.freeze i hi
  obtain ⟨v, v1, v2⟩ := repVs_get hr j _ hj
  have hr' : repVs G' φ (args.set j (.d (.sl rows))) vs := by
    have := repVs_set (repVs_mono hle (Loc.le.refl _) _ _ hr) j (hv v v2)
    have e1 : vs.set j v = vs := by
      refine List.ext_getElem? fun m => ?_
      rw [List.getElem?_set]
      split
      · rename_i hjm; subst hjm; rw [if_pos (lt_of_get v1), v1]
      · rfl
    rwa [e1] at this
  refine (c.2 G' w φ vs hs' hr').mono fun e w' ⟨v, r, h', G2, φ', h1, h2, h3, h4, h5, h6⟩ => ⟨v, r, h', G2, φ', h1, h2, by simpa using h3, h4, (hg _ _ _ _ (Goes.refl _ _ _ _)).trans h5, h6⟩
/-- The same, of a slot. -/
theorem SWp.freeze {c : Code} (t i : Nat) {e : Nat} {rows : List (List D)} (ht : lk ρ t = some (.arr i 0 rows.length)) (hi : H[i]? = some (.parr e rows)) (h : SWp P n k c ((t, .d (.sl rows)) :: ρ) (H.set i .dead) Q) : SWp P n k c ρ H Q := by
  intro G1 w1 φ1 H1 G w φ a Qc h0 hr hg hQ
  obtain ⟨v, hv, hvr⟩ := hr.env t _ ht
  obtain ⟨G', hle, hs', hv', hg'⟩ := hr.sit.freeze i hi
  refine h G1 w1 φ1 H1 G' w φ a Qc h0 ⟨hs', fun u x hx => ?_, hr.size⟩ (hg.trans (hg' _ _ _ _ (Goes.refl _ _ _ _)) rfl) hQ
  rw [lk_put] at hx
  split at hx
  · rename_i hu; subst hu
    injection hx with hx; subst hx
    exact ⟨v, hv, hv' v hvr⟩
  · obtain ⟨v, h1, h2⟩ := hr.env u x hx
    exact ⟨v, h1, x.rep_mono hle (Loc.le.refl _) v h2⟩
/-- A call that is lent nothing leaves all objects as they are. -/
theorem PFun.frame {f : FuncId} {args : List V} {r : V} {h : List Ob} {R : V → List Ob → Prop} (c : PFun P f args [] r []) (ha : rens (pos []) args = some args) (hr : r.ren (back [] h.length) = some r) (k : R r h) : PCalls P f args h R := by
  refine ⟨c.1, fun G w φ vs hs hv => ?_⟩
  have ho : obsAt h (pos []) [] = some [] := rfl
  have hls := lent_sit (H := h) hs List.nodup_nil (fun i hi => by simp at hi) ho
  refine (c.2 G w (lentLoc φ []) vs hls (rens_rep (lent_moves φ []) _ _ _ ha hv)).mono fun e w' ⟨v, r', h', G', φ', h1, ⟨e1, e2⟩, h3, h4, h5, h6⟩ => ?_
  subst e1; subst e2
  obtain ⟨q1, q2, q3⟩ := call_back (x := r') (H := h) (obs := []) hs List.nodup_nil (by simp) (fun i hi => by simp at hi) ho h4 h5 h3 rfl (fun i h4 h5 => List.getElem?_eq_none h4)
  rw [upd_hp h _ (by simp)] at q1 q2
  exact ⟨v, r', h, G', _, h1, k, Nat.le_refl _, q1, q2, V.ren_rep q3 _ _ _ hr h6⟩
end
end Go.Proofs.Ytlafnhpmhflnaaa.Q
