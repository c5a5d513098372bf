/- Operations that write, make, name places; arithmetic. No condition. -/
import Derived.Test.YtlafnhpmhflnaaaQd
set_option linter.unusedVariables false
set_option linter.unusedSectionVars false
set_option linter.unnecessarySimpa false
set_option linter.unusedSimpArgs false
namespace Go.Proofs.Ytlafnhpmhflnaaa.Q
variable [Amb]

def V.toD : V → Option D
  | .d x => some x
  | .fsl rows => some (.sl rows)
  | .gsl rows _ => some (.sl rows)
  | _ => none
theorem V.toD_rep {G : Imm} {φ : Loc} {x : V} {d : D} {v : Value} (h : x.rep G φ v) (k : x.toD = some d) : d.rep G v := by
  cases x <;> first | (injection k with k; subst k) | cases k
  · exact h
  · obtain ⟨A, e, h1⟩ := h; exact ⟨Addr0 A, _, e, Nat.le_refl _, a0 h1⟩
  · obtain ⟨A, c, _, e, h1, h2⟩ := h; exact ⟨Addr0 A, c, e, h1, a0 h2⟩
def toDs : List V → Option (List D)
  | [] => some []
  | x :: xs => match x.toD with
    | some d => match toDs xs with
      | some ds => some (d :: ds)
      | none => none
    | none => none
theorem toDs_rep {G : Imm} {φ : Loc} : ∀ {xs : List V} {ds : List D} {us : List Value}, repVs G φ xs us → toDs xs = some ds → ds.length = xs.length ∧ ∀ (j : Nat) d, ds[j]? = some d → ∃ u, us[j]? = some u ∧ d.rep G u
  | [], ds, us, h, k => by simp [toDs] at k; subst k; exact ⟨rfl, by simp⟩
  | x :: xs, ds, us, ⟨u, us', e, h1, h2⟩, k => by
    unfold toDs at k
    split at k
    · rename_i d hd
      split at k
      · rename_i ds' hds
        injection k with k; subst k
        obtain ⟨g1, g2⟩ := toDs_rep h2 hds
        refine ⟨by simp [g1], fun j d' hj => ?_⟩
        rw [e]
        cases j with
        | zero => simp at hj; subst hj; exact ⟨u, rfl, V.toD_rep h1 hd⟩
        | succ j => simpa using g2 j d' (by simpa using hj)
      · cases k
    · cases k

theorem upd_one (H : Hp) (base id : Nat) (x : V) (rd : List Nat) (ob : Ob) : upd H base ⟨x, rd, [(id, ob)], []⟩ = fun i => if i = id then some ob else H i := by
  funext i
  have e : lkO [(id, ob)] i = if id = i then some ob else none := lkO_cons id ob [] i
  simp only [upd, e, List.length_nil, Nat.add_zero]
  by_cases h : id = i
  · subst h; simp
  · rw [if_neg h, if_neg (by omega), if_neg (fun e => h e.symm)]
theorem Inv.setRow {G : Imm} {w : World} (h : Inv G w) {b : Nat} (hb : ∀ o, G b o = none) (cs : Array Value) : Inv G (w.setRow b cs) := fun b' o v hg => by
  have hne : b' ≠ b := fun e => by rw [e, hb] at hg; cases hg
  rw [cell_setRow_other w b cs ⟨b', o, none⟩ hne]
  exact h b' o v hg
/-- An object of a block of its own is written. -/
theorem Sit.write {G : Imm} {w : World} {φ : Loc} {H : Hp} (hs : Sit G w φ H) (id b : Nat) (ob ob' : Ob) (us : Array Value) (hH : H id = some ob) (hb : Owns φ id ob b) (hG : ∀ o, G b o = none)
    (hh : Holds G (w.setRow b us) φ id ob') (ho : ∀ b', Owns φ id ob' b' → b' = b) :
    Sit G (w.setRow b us) φ (fun i => if i = id then some ob' else H i) ∧ Goes G w φ H G (w.setRow b us) φ (fun i => if i = id then some ob' else H i) := by
  refine hs.step (fun i => i = id) (Imm.le.refl _) (Loc.le.refl _) (fun _ _ _ => rfl) rfl rfl rfl (by rw [setRow_size]; exact Nat.le_refl _) ?_ (fun i hi => if_neg hi) (hs.inv.setRow hG us) ?_ ?_ ?_ ?_
  · intro k hk hn
    refine ⟨setRow_other w b k us ?_, fun _ => rfl⟩
    rintro rfl
    exact hn id ob rfl hH hb
  · intro i ob1 hi h1; subst hi; simp at h1; subst h1; exact hh
  · intro i j ob1 ob2 b hi hj hij; exact absurd (hi.trans hj.symm) hij
  · intro i ob1 b1 hi h1 h2
    subst hi; simp at h1; subst h1
    have e := ho _ h2; subst e
    exact .inl ⟨i, ob, rfl, hH, hb⟩
  · intro i hi h1; subst hi; simp at h1

section
variable {P : Program} {tt : TT} {o : Oper} {ρ : Env} {H : List Ob} {K : Eff → Prop}

def pStore (tt : TT) (t : TypeId) (X Y : V) (H : List Ob) (K : Eff → Prop) : Prop :=
  match tt t with
  | none => False
  | some e =>
    match X with
    | .ptr id off =>
      match H[id]? with
      | some (.box cells) => condP (Y.cellB && Nat.beq Y.cells.length e.size && Nat.ble (off + e.size) cells.length)
          (K ⟨.undef, [], [(id, .box (cells.take off ++ Y.cells ++ cells.drop (off + e.size)))], []⟩)
      | _ => False
    | .eptr id i off =>
      match H[id]?, toDs Y.cells with
      | some (.parr esz rows), some ds => PIdxN rows i fun row => condP (Y.cellB && Nat.beq ds.length e.size && Nat.ble (off + e.size) row.length)
          (K ⟨.undef, [], [(id, .parr esz (rows.set i (row.take off ++ ds ++ row.drop (off + e.size))))], []⟩)
      | _, _ => False
    | _ => False
theorem mid_get {α : Type} (l m : List α) (o n : Nat) (hm : m.length = n) (ho : o + n ≤ l.length) (j : Nat) : (l.take o ++ m ++ l.drop (o + n))[j]? = if j < o then l[j]? else if j < o + n then m[j - o]? else l[j]? := by
  have h1 : (l.take o).length = o := by simp; omega
  rw [List.append_assoc, List.getElem?_append, h1]
  by_cases hj : j < o
  · rw [if_pos hj, if_pos hj, List.getElem?_take, if_pos hj]
  · rw [if_neg hj, if_neg hj, List.getElem?_append, hm]
    by_cases hk : j < o + n
    · rw [if_pos hk, if_pos (by omega)]
    · rw [if_neg hk, if_neg (by omega), List.getElem?_drop]
      congr 1; omega
theorem pStore_sem (htt : TTok P tt) {t : TypeId} {x y : Operand} {X Y : V} (ho : o.op = .store t x y) (hx : ev ρ x = some X) (hy : ev ρ y = some Y) (h : pStore tt t X Y H K) : ∃ e, K e ∧ Tri P o ρ H e := by
  have hop : x ∈ o.op.operands := by rw [ho]; simp [Op.operands]
  have hop' : y ∈ o.op.operands := by rw [ho]; simp [Op.operands]
  have run : ∀ (a : Act) (b j : Nat) (w w' : World), a.eval x = .pointer (some ⟨b, j, none⟩) → (storeVar t ⟨b, j, none⟩ (a.eval y)).run P w = .ok () w' → (execOp a.eval o).run P w = .ok .skip w' := by
    intro a b j w w' e1 e2
    unfold execOp
    rw [ho]
    simp [Instr.storeAt, Instr.sureAddr, e1, e2]
  unfold pStore at h
  split at h
  · exact h.elim
  rename_i e he
  split at h
  · rename_i id off
    split at h
    · rename_i cells hH
      obtain ⟨hc, hk⟩ := condP_out h
      simp only [Bool.and_eq_true] at hc
      obtain ⟨⟨c1, c2⟩, c3⟩ := hc
      have c2 := Nat.eq_of_beq_eq_true c2
      have c3 := Nat.le_of_ble_eq_true c3
      have hid := lt_of_get hH
      refine ⟨_, hk, ⟨by simp, by simpa using hid, fun a G w φ Hx K Q hs hr ha hf hK => ?_⟩⟩
      obtain ⟨b, c, h1, h2⟩ := hr x _ hop hx
      have hHx : Hx id = some (.box cells) := (ha id (.inr ⟨_, List.mem_singleton.2 rfl, rfl⟩)).trans hH
      obtain ⟨b', c', T, us, k1, k2, k3, k4, k5⟩ := hs.holds id _ hHx
      rw [h1] at k1; injection k1 with k1; injection k1 with k1 k1'; injection k1 with k1; injection k1 with k1; subst k1
      obtain ⟨r1, r2⟩ := V.cells_rep' (hr y _ hop' hy) c1
      have hl := repVs_len k3
      have hvl := repVs_len r1
      have hst := run_storeVar_at htt he w b off T (0, 0) us (a.eval y) r2 (by rw [hvl, c2]) k2 (Nat.zero_le _) (by omega)
      rw [upd_one] at hK
      have hw := hs.write id b _ (.box (cells.take off ++ Y.cells ++ cells.drop (off + e.size))) (us.take off ++ (a.eval y).cells.toList ++ us.drop (off + e.size)).toArray hHx (by simp [Owns, own, h1]) k5
        ⟨b, c, T, _, h1, setRow_heap w b _ _ T _ k2, repVs_append (repVs_append (repVs_take k3 _) r1) (repVs_drop k3 _), fun u hu => by
          simp only [List.mem_append] at hu
          rcases hu with (hu | hu) | hu
          · exact k4 u (List.mem_of_mem_take hu)
          · exact r2 u hu
          · exact k4 u (List.mem_of_mem_drop hu), k5⟩ (fun b' hb' => by simp [Owns, own, h1] at hb'; exact hb'.symm)
      unfold Oper.wp
      rw [run a b off w _ h2 hst, Oper.upon_skip]
      exact hK undef _ _ _ hw.1 hw.2 trivial
    · exact h.elim
  · rename_i id i off
    split at h
    · rename_i esz rows ds hH hds
      obtain ⟨row, hrow, h⟩ := h
      obtain ⟨hc, hk⟩ := condP_out h
      simp only [Bool.and_eq_true] at hc
      obtain ⟨⟨c1, c2⟩, c3⟩ := hc
      have c2 := Nat.eq_of_beq_eq_true c2
      have c3 := Nat.le_of_ble_eq_true c3
      have hid := lt_of_get hH
      refine ⟨_, hk, ⟨by simp, by simpa using hid, fun a G w φ Hx K Q hs hr ha hf hK => ?_⟩⟩
      obtain ⟨b, c, h1, h2⟩ := hr x _ hop hx
      have hHx : Hx id = some (.parr esz rows) := (ha id (.inr ⟨_, List.mem_singleton.2 rfl, rfl⟩)).trans hH
      obtain ⟨b', T, us, k1, k2, k3, k4, k5⟩ := hs.holds id _ hHx
      rw [h1] at k1; injection k1 with k1; injection k1 with k1 k1'; injection k1 with k1; injection k1 with k1; subst k1; subst k1'
      obtain ⟨r1, r2⟩ := V.cells_rep' (hr y _ hop' hy) c1
      obtain ⟨d1, d2⟩ := toDs_rep r1 hds
      have hvl := repVs_len r1
      have hrl := (k4 i row hrow).1
      have hilt := lt_of_get hrow
      have hmul : (i + 1) * c ≤ rows.length * c := Nat.mul_le_mul_right _ hilt
      rw [Nat.succ_mul] at hmul
      have hfit : i * c + off + e.size ≤ us.length := by omega
      have hst := run_storeVar_at htt he w b (i * c + off) T (0, 0) us (a.eval y) r2 (by omega) k2 (Nat.zero_le _) hfit
      rw [upd_one] at hK
      have hw := hs.write id b _ (.parr c (rows.set i (row.take off ++ ds ++ row.drop (off + e.size)))) (us.take (i * c + off) ++ (a.eval y).cells.toList ++ us.drop (i * c + off + e.size)).toArray hHx (by simp [Owns, own, h1]) k5
        ⟨b, T, _, h1, setRow_heap w b _ _ T _ k2, by rw [List.length_append, List.length_append, List.length_take, List.length_drop, List.length_set]; omega, fun j r hj => by
          rw [List.getElem?_set] at hj
          by_cases hij : i = j
          · subst hij
            simp only [if_true, hilt] at hj
            injection hj with hj
            subst hj
            refine ⟨by simp; omega, fun m d hm => ?_⟩
            rw [mid_get row ds off e.size c2 c3] at hm
            rw [mid_get us (a.eval y).cells.toList (i * c + off) e.size (by omega) hfit]
            by_cases m1 : m < off
            · rw [if_pos m1] at hm
              rw [if_pos (by omega)]
              exact (k4 i row hrow).2 m d hm
            · rw [if_neg m1] at hm
              rw [if_neg (by omega)]
              by_cases m2 : m < off + e.size
              · rw [if_pos m2] at hm
                rw [if_pos (by omega), show i * c + m - (i * c + off) = m - off by omega]
                exact d2 _ d hm
              · rw [if_neg m2] at hm
                rw [if_neg (by omega)]
                exact (k4 i row hrow).2 m d hm
          · simp only [hij, if_false] at hj
            refine ⟨(k4 j r hj).1, fun m d hm => ?_⟩
            have hrl2 := (k4 j r hj).1
            have hm1 := lt_of_get hm
            have hjl := lt_of_get hj
            rw [mid_get us (a.eval y).cells.toList (i * c + off) e.size (by omega) hfit]
            rcases Nat.lt_or_gt_of_ne hij with hlt | hgt
            · have : (i + 1) * c ≤ j * c := Nat.mul_le_mul_right _ hlt
              rw [Nat.succ_mul] at this
              rw [if_neg (by omega), if_neg (by omega)]
              exact (k4 j r hj).2 m d hm
            · have : (j + 1) * c ≤ i * c := Nat.mul_le_mul_right _ hgt
              rw [Nat.succ_mul] at this
              rw [if_pos (by omega)]
              exact (k4 j r hj).2 m d hm, k5⟩ (fun b' hb' => by simp [Owns, own, h1] at hb'; exact hb'.symm)
      unfold Oper.wp
      rw [run a b _ w _ h2 hst, Oper.upon_skip]
      exact hK undef _ _ _ hw.1 hw.2 trivial
    · exact h.elim
  · exact h.elim
end
end Go.Proofs.Ytlafnhpmhflnaaa.Q
