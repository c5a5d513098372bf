/- Appending: in its room, or anew. No condition. -/
import Derived.Test.YtlafnhpmhflnaaaQj
set_option linter.unusedVariables false
set_option linter.unusedSectionVars false
set_option linter.unnecessarySimpa false
set_option linter.unusedSimpArgs false
namespace Go.Proofs.Ytlafnhpmhflnaaa.Q
variable [Amb]
section
variable {P : Program} {tt : TT} {o : Oper} {ρ : Env} {H : List Ob} {K : Eff → Prop}

/-- What is known for good, and cells of a block from a place on. -/
def addAt (G : Imm) (b lo : Nat) (us : List Value) : Imm := fun b' j => if b' = b ∧ lo ≤ j ∧ j < lo + us.length then us[j - lo]? else G b' j
theorem addAt_le {G : Imm} {b lo : Nat} (h : ∀ j, lo ≤ j → G b j = none) (us : List Value) : G.le (addAt G b lo us) := fun b' j v e => by
  unfold addAt
  split
  · rename_i hh; rw [hh.1, h j hh.2.1] at e; cases e
  · exact e
/-- What a slice becomes that has room. -/
theorem Sit.room {G : Imm} {w : World} {φ : Loc} {Hx : Hp} (hs : Sit G w φ Hx) (q b p e n c : Nat) (cs : List Value) (T : TypeId) (fr : Nat × Nat) (news : List Value) (rows qs : List (List D)) (hH : Hx q = some (.tip e n)) (hn : n = rows.length)
    (hφ : φ q n = some (some (b, p), c)) (hb : w.heap[b]? = some (.cells cs.toArray T fr)) (hsz : p + c * e ≤ cs.length) (hG : ∀ j, p + n * e ≤ j → G b j = none) (hfr : fr.2 ≤ p + n * e) (hun : ∀ m, n < m → φ q m = none)
    (hq : RowsIn G news e qs) (hqs : 0 < qs.length) (hc : n + qs.length ≤ c) (hrows : rows ≠ [] → ∃ b' o e', some (b, p) = some (b', o) ∧ repRows G b' o e' rows) (hrl : RL rows e) :
    Sit (addAt G b (p + n * e) news) (w.setRow b (cs.take (p + n * e) ++ news ++ cs.drop (p + n * e + news.length)).toArray) (setLoc φ q (n + qs.length) (some (b, p), c)) (fun i => if i = q then some (.tip e (n + qs.length)) else Hx i) ∧
    Goes G w φ Hx (addAt G b (p + n * e) news) (w.setRow b (cs.take (p + n * e) ++ news ++ cs.drop (p + n * e + news.length)).toArray) (setLoc φ q (n + qs.length) (some (b, p), c)) (fun i => if i = q then some (.tip e (n + qs.length)) else Hx i) ∧
    (V.gsl (rows ++ qs) q).rep (addAt G b (p + n * e) news) (setLoc φ q (n + qs.length) (some (b, p), c)) (.slice (some ⟨b, p, none⟩) (n + qs.length) c) := by
  have hnl := hq.1
  have hce : (n + qs.length) * e ≤ c * e := Nat.mul_le_mul_right _ hc
  rw [Nat.add_mul] at hce
  have hfit : p + n * e + news.length ≤ cs.length := by omega
  have hle := addAt_le hG news
  have hown : Owns φ q (.tip e n) b := by simp only [Owns, own, hφ]; rw [if_pos (by omega)]
  have hst := hs.step (G' := addAt G b (p + n * e) news) (w' := w.setRow b (cs.take (p + n * e) ++ news ++ cs.drop (p + n * e + news.length)).toArray) (φ' := setLoc φ q (n + qs.length) (some (b, p), c)) (H' := fun i => if i = q then some (.tip e (n + qs.length)) else Hx i) (fun i => i = q) hle (setLoc_le (hun _ (by omega))) (fun i hi m => setLoc_ne hi) rfl rfl rfl (by rw [setRow_size]; exact Nat.le_refl _)
    (fun k hk hno => by
      have hkb : k ≠ b := fun hkb => hno q _ rfl hH (by rw [hkb]; exact hown)
      exact ⟨setRow_other w b k _ hkb, fun j => by unfold addAt; rw [if_neg (fun hh => hkb hh.1)]⟩)
    (fun i hi => if_neg hi)
    (fun b' j v hg => by
      unfold addAt at hg
      split at hg
      · rename_i hh
        obtain ⟨rfl, h1, h2⟩ := hh
        rw [cell_us _ (setRow_heap w b' _ _ T fr hb), mid_get cs news (p + n * e) news.length rfl hfit, if_neg (by omega), if_pos h2]
        exact hg
      · by_cases hbb : b' = b
        · subst hbb
          have hj : j < p + n * e := by
            rcases Nat.lt_or_ge j (p + n * e) with h | h
            · exact h
            · rw [hG j h] at hg; cases hg
          rw [cell_us _ (setRow_heap w b' _ _ T fr hb), mid_get cs news (p + n * e) news.length rfl hfit, if_pos hj, ← cell_us w hb]
          exact hs.inv _ _ _ hg
        · rw [cell_setRow_other w b _ ⟨b', j, none⟩ hbb]
          exact hs.inv _ _ _ hg)
    (fun i ob hi h1 => by
      subst hi; simp at h1; subst h1
      refine ⟨some (b, p), c, setLoc_same _ _ _ _, hc, fun m hm => ?_, fun hlt => ⟨b, p, _, T, fr, rfl, setRow_heap w b _ _ T fr hb, ?_, fun j hj => ?_, ?_⟩⟩
      · unfold setLoc; rw [if_neg (by omega)]; exact hun m (by omega)
      · simp only [List.size_toArray, List.length_append, List.length_take, List.length_drop]; omega
      · rw [Nat.add_mul] at hj
        unfold addAt
        rw [if_neg (by omega)]
        exact hG j (by omega)
      · rw [Nat.add_mul]; omega)
    (fun i j ob1 ob2 b hi hj hij => absurd (hi.trans hj.symm) hij)
    (fun i ob k hi h1 h2 => by
      subst hi; simp at h1; subst h1
      simp only [Owns, own, setLoc_same] at h2
      split at h2
      · injection h2 with h2; subst h2; exact .inl ⟨i, _, rfl, hH, hown⟩
      · cases h2)
    (fun i hi h1 => by subst hi; simp at h1)
  refine ⟨hst.1, hst.2, some (b, p), c, by rw [List.length_append, ← hn]; exact setLoc_same _ _ _ _, by rw [List.length_append, ← hn]; rfl, by rw [List.length_append, ← hn]; exact hc, fun _ => ⟨b, p, e, rfl, repRows_append ?_ ?_⟩⟩
  · by_cases hr : rows = []
    · rw [hr]; trivial
    · obtain ⟨b', o', e', h1, h2⟩ := hrows hr
      injection h1 with h1; injection h1 with h1 h1'; subst h1; subst h1'
      have he : e' = e := by
        obtain ⟨r, hr⟩ := List.exists_mem_of_ne_nil rows hr
        rw [← repRows_len h2 r hr, hrl r hr]
      subst he
      exact repRows_mono hle _ _ _ _ h2
  · refine hq.rows hle fun j u hj => ?_
    unfold addAt
    rw [← hn, if_pos ⟨rfl, by omega, by have := lt_of_get hj; omega⟩, show p + n * e + j - (p + n * e) = j by omega]
    exact hj
theorem list_of_array (cs : Array Value) : ∃ l : List Value, cs = l.toArray := ⟨cs.toList, by simp⟩
theorem pApp_sem (htt : TTok P tt) {t t2 : TypeId} {x y : Operand} {X Y : V} (ho : o.op = .call { callee := .builtin .append, args := #[x, y], argTypes := #[t, t2] }) (hx : ev ρ x = some X) (hy : ev ρ y = some Y) (h : pApp tt t t2 X Y H K) : ∃ e, K e ∧ Tri P o ρ H e := by
  have hox : x ∈ o.op.operands := by rw [ho]; simp [Op.operands, Call.operands]
  have hoy : y ∈ o.op.operands := by rw [ho]; simp [Op.operands, Call.operands]
  have run : ∀ (a : Act) (w w' : World) (v : Value), (Builtin.append_ #[t, t2] o.type #[a.eval x, a.eval y]).run P w = .ok v w' → (execOp a.eval o).run P w = .ok (.value v) w' := by
    intro a w w' v e1
    unfold execOp
    rw [ho]
    simp [resolve, invoke, builtin, e1]
  unfold pApp at h
  split at h
  · rename_i e qs he hqs
    obtain ⟨ti, d, h1, h2, _, _, h3, _⟩ := tt_get htt he
    split at h
    · rename_i el hk
      rw [hk] at h3; rw [mkK_slice h3] at h2
      split at h
      · rename_i te hte
        obtain ⟨i, d', i1, i2, i3, i4, _, i5⟩ := tt_get htt hte
        split at h
        · rename_i z hz
          rw [hz, Option.bind_eq_some_iff] at i5
          obtain ⟨v0, hv0, hvz⟩ := i5
          obtain ⟨hc, h'⟩ := condP_out h
          clear h
          simp only [Bool.and_eq_true] at hc
          obtain ⟨⟨c0, c1⟩, c2⟩ := hc
          have c1 := Nat.eq_of_beq_eq_true c1
          have c2 := Nat.le_of_ble_eq_true c2
          have zsz : ∀ n, (Builtin.zeroCells v0.cells n).toList.length = n * te.size := by
            intro n
            have : v0.cells.size = te.size := by
              have := repVs_len (V.cells_rep' (ofConst_rep hvz (fun _ _ => none) (fun _ _ => none)) c0).1
              simp at this; omega
            rw [Array.length_toList, size_zeroCells, this]
          have fits : ∀ n m c, c < n + m → n + m ≤ 1073741824 → Builtin.nextslicecap (n + m) c * i.bytes ≤ 281474976710656 := by
            intro n m c hlt hle
            refine growslice_fits hlt ?_
            rw [i4]
            exact Nat.le_trans (Nat.mul_le_mul hle c2) (by omega)
          split at h'
          · rename_i rows
            obtain ⟨⟨hrl, hql, hlen⟩, hK0⟩ := h'
            rw [List.length_append] at hlen
            refine ⟨_, hK0, ⟨by simp, by simp, fun a G w φ Hx K Q hs hr ha hf hK => ?_⟩⟩
            have hn : Hx H.length = none := hf _ (Nat.le_refl _) (by simp)
            obtain ⟨A, e1, e2⟩ := hr x _ hox hx
            obtain ⟨d2, g1, g2, g3, news, g4, g5⟩ := rowsX_run (P := P) htt hqs hql (hr y _ hoy hy) w hs.inv
            rw [upd_tip] at hK
            unfold Oper.wp
            by_cases hm : qs.length = 0
            · have hq0 : qs = [] := List.eq_nil_of_length_eq_zero hm
              subst hq0
              have hn0 : news = [] := List.eq_nil_of_length_eq_zero (by rw [g4.1]; simp)
              subst hn0
              have hr1 := run_app_same (P := P) w t t2 o.type el d2 i h2 g1 g2 i1 (Addr0 A) rows.length rows.length (a.eval y) g3 (by rw [i3]; exact g5) (Nat.le_refl _)
              rw [← e1] at hr1
              rw [run a w w _ hr1, Oper.upon_value]
              simp only [List.append_nil] at hK ⊢
              have hst := hs.step (G' := G) (w' := w) (φ' := setLoc φ H.length rows.length (A, rows.length)) (H' := fun i => if i = H.length then some (.tip te.size rows.length) else Hx i) (fun i => i = H.length) (Imm.le.refl _) (setLoc_le (hs.un _ hn _)) (fun i hi m => setLoc_ne hi) rfl rfl rfl (Nat.le_refl _)
                (fun b hb _ => ⟨rfl, fun _ => rfl⟩) (fun i hi => if_neg hi) hs.inv
                (fun i ob hi h1 => by
                  subst hi; simp at h1; subst h1
                  exact ⟨A, rows.length, setLoc_same _ _ _ _, Nat.le_refl _, fun m hm => by unfold setLoc; rw [if_neg (by omega)]; exact hs.un _ hn m, fun hlt => absurd hlt (Nat.lt_irrefl _)⟩)
                (fun i j ob1 ob2 b hi hj hij => absurd (hi.trans hj.symm) hij)
                (fun i ob b hi h1 h2 => by
                  subst hi; simp at h1; subst h1
                  simp only [Owns, own, setLoc_same] at h2
                  split at h2
                  · rename_i hh
                    simp only [Option.some.injEq, Prod.mk.injEq] at hh
                    split at h2
                    · omega
                    · cases h2
                  · cases h2)
                (fun i hi h1 => by subst hi; simp at h1)
              exact hK _ _ _ _ hst.1 hst.2 ⟨A, rows.length, setLoc_same _ _ _ _, e1, Nat.le_refl _, e2⟩
            · obtain ⟨olds, o1, o2⟩ := sl_cells (P := P) (w := w.drew) hs.inv.drew (c := rows.length) hrl e2
              obtain ⟨_, _, _, _, news', g4', g5'⟩ := rowsX_run (P := P) htt hqs hql (hr y _ hoy hy) w.drew hs.inv.drew
              have hr1 := run_app_grow (P := P) w t t2 o.type el d2 i v0 h2 g1 g2 i1 hv0 (Addr0 A) rows.length rows.length qs.length (a.eval y) olds news' g3 (by rw [i3]; exact g5') (by rw [i3]; exact o2) (by omega) (by omega) (fits _ _ _ (by omega) hlen)
              rw [← e1] at hr1
              rw [run a w _ _ hr1, Oper.upon_value]
              have hge := grownCap_ge w (rows.length + qs.length) rows.length el
              have hst := hs.drew.grow H.length te.size (rows.length + qs.length) (grownCap w (rows.length + qs.length) rows.length el) (olds ++ news') (Builtin.zeroCells v0.cells (grownCap w (rows.length + qs.length) rows.length el - (rows.length + qs.length))).toList (rows ++ qs) el (o1.append g4') (by rw [List.length_append]) hge (zsz _) (fun m hm => hs.un _ hn m) (fun _ _ _ _ => trivial)
              have hst2 : Goes G w φ Hx _ _ _ _ := (Goes.drew G w φ Hx).trans hst.2.1
              rw [List.length_append] at hK
              exact hK _ _ _ _ hst.1 hst2 hst.2.2
          · rename_i rows q
            split at h'
            · rename_i esz n hH
              obtain ⟨hes, ⟨hnr, hrl, hql, hlen⟩, hK0⟩ := condP_out h'
              have hes := Nat.eq_of_beq_eq_true hes
              subst hes
              rw [List.length_append] at hlen
              have hqlt := lt_of_get hH
              refine ⟨_, hK0, ⟨by simp, by simpa using hqlt, fun a G w φ Hx K Q hs hr ha hf hK => ?_⟩⟩
              obtain ⟨A, c, e0, e1, e3, e2⟩ := hr x _ hox hx
              obtain ⟨d2, g1, g2, g3, news, g4, g5⟩ := rowsX_run (P := P) htt hqs hql (hr y _ hoy hy) w hs.inv
              have hHx : Hx q = some (.tip te.size n) := (ha q (.inr ⟨_, List.mem_singleton.2 rfl, rfl⟩)).trans hH
              obtain ⟨A', c', f1, f2, f3, f4⟩ := hs.holds q _ hHx
              rw [hnr, e0] at f1; injection f1 with f1; injection f1 with f1 f1'; subst f1; subst f1'
              rw [upd_one] at hK
              unfold Oper.wp
              by_cases hm : qs.length = 0
              · have hq0 : qs = [] := List.eq_nil_of_length_eq_zero hm
                subst hq0
                have hn0 : news = [] := List.eq_nil_of_length_eq_zero (by rw [g4.1]; simp)
                subst hn0
                have hr1 := run_app_same (P := P) w t t2 o.type el d2 i h2 g1 g2 i1 (Addr0 A) rows.length c (a.eval y) g3 (by rw [i3]; exact g5) e3
                rw [← e1] at hr1
                rw [run a w w _ hr1, Oper.upon_value]
                simp only [List.append_nil] at hK ⊢
                have hsame : (fun i => if i = q then some (Ob.tip te.size rows.length) else Hx i) = Hx := by
                  funext i
                  by_cases hi : i = q
                  · rw [if_pos hi, hi, hHx, hnr]
                  · rw [if_neg hi]
                rw [hsame] at hK
                exact hK _ _ _ _ hs (Goes.refl _ _ _ _) ⟨A, c, e0, e1, e3, e2⟩
              · by_cases hroom : rows.length + qs.length ≤ c
                · obtain ⟨b, p, cs, T, fr, rfl, k1, k2, k3, k4⟩ := f4 (by omega)
                  obtain ⟨cl, rfl⟩ := list_of_array cs
                  have hce : (rows.length + qs.length) * te.size ≤ c * te.size := Nat.mul_le_mul_right _ hroom
                  rw [Nat.add_mul] at hce
                  have hnl := g4.1
                  simp at k2
                  have hst0 := run_storeCells_atF P b (p + rows.length * te.size) T fr news 0 cl.toArray w k1 (by rw [← hnr]; omega) (by simp; omega) g4.one
                  simp only [Nat.add_zero] at hst0
                  have hr1 := run_app_room (P := P) w t t2 o.type el d2 i h2 g1 g2 i1 b p rows.length c qs.length (a.eval y) news _ g3 (by rw [i3]; exact g5) hroom (by rw [i3]; exact hst0)
                  rw [show (some ⟨b, p, none⟩ : Option Addr) = Addr0 (some (b, p)) from rfl, ← e1] at hr1
                  rw [run a w _ _ hr1, Oper.upon_value]
                  have hst := hs.room q b p te.size n c cl T fr news rows qs hHx hnr (by rw [hnr]; exact e0) k1 k2 k3 k4 f3 g4 (by omega) (by omega) e2 hrl
                  rw [List.length_append, ← hnr] at hK
                  rw [← hnr]
                  exact hK _ _ _ _ hst.1 hst.2.1 hst.2.2
                · obtain ⟨olds, o1, o2⟩ := sl_cells (P := P) (w := w.drew) hs.inv.drew (c := c) hrl e2
                  obtain ⟨_, _, _, _, news', g4', g5'⟩ := rowsX_run (P := P) htt hqs hql (hr y _ hoy hy) w.drew hs.inv.drew
                  have hr1 := run_app_grow (P := P) w t t2 o.type el d2 i v0 h2 g1 g2 i1 hv0 (Addr0 A) rows.length c qs.length (a.eval y) olds news' g3 (by rw [i3]; exact g5') (by rw [i3]; exact o2) (by omega) (by omega) (fits _ _ _ (by omega) hlen)
                  rw [← e1] at hr1
                  rw [run a w _ _ hr1, Oper.upon_value]
                  have hge := grownCap_ge w (rows.length + qs.length) c el
                  have hst := hs.drew.grow q te.size (rows.length + qs.length) (grownCap w (rows.length + qs.length) c el) (olds ++ news') (Builtin.zeroCells v0.cells (grownCap w (rows.length + qs.length) c el - (rows.length + qs.length))).toList (rows ++ qs) el (o1.append g4') (by rw [List.length_append]) hge (zsz _) (fun m hm => f3 m (by omega)) (fun _ _ _ _ => trivial)
                  have hst2 : Goes G w φ Hx _ _ _ _ := (Goes.drew G w φ Hx).trans hst.2.1
                  rw [List.length_append] at hK
                  exact hK _ _ _ _ hst.1 hst2 hst.2.2
            · exact h'.elim
          · exact h'.elim
        · exact h.elim
      · exact h.elim
    · exact h.elim
  · exact h.elim
end
end Go.Proofs.Ytlafnhpmhflnaaa.Q
