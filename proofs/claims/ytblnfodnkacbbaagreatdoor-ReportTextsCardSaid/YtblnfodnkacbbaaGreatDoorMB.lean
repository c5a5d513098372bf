/- A logic of code over pure values, proved right; sets, remembering maps, interface values. No condition. -/
import Derived.Test.YtblnfodnkacbbaaGreatDoorMA
import Derived.Maps.RangeRun
import Derived.WideKeyRuns
import Derived.LaidEql
import Derived.TacticsIn
import Derived.OrdersIn
set_option linter.unusedVariables false
set_option linter.unusedSectionVars false
set_option linter.unnecessarySimpa false
set_option linter.unusedSimpArgs false
namespace Go.Proofs.YtblnfodnkacbbaaGreatDoor.Q
variable [Amb]
section
variable {P : Program} {tt : TT} {o : Oper} {ρ : Env} {H : List Ob} {K : Eff → Prop}

/-- What is known for good, and cells of a block from a place on. -/
def addAt (G : Imm) (b lo : Nat) (us : List Value) : Imm := fun b' j => if b' = b ∧ lo ≤ j ∧ j < lo + us.length then us[j - lo]? else G b' j
theorem addAt_le {G : Imm} {b lo : Nat} (h : ∀ j, lo ≤ j → G b j = none) (us : List Value) : G.le (addAt G b lo us) := fun b' j v e => by
  unfold addAt
  split
  · rename_i hh; rw [hh.1, h j hh.2.1] at e; cases e
  · exact e
/-- What a slice becomes that has room. -/
theorem Sit.room {G : Imm} {w : World} {φ : Loc} {Hx : Hp} (hs : Sit G w φ Hx) (q b p e n c : Nat) (cs : List Value) (T : TypeId) (fr : Nat × Nat) (news : List Value) (rows qs : List (List D)) (hH : Hx q = some (.tip e n)) (hn : n = rows.length)
    (hφ : φ q n = some (some (b, p), c)) (hb : w.heap[b]? = some (.cells cs.toArray T fr)) (hsz : p + c * e ≤ cs.length) (hG : ∀ j, p + n * e ≤ j → G b j = none) (hfr : fr.2 ≤ p + n * e) (hun : ∀ m, n < m → φ q m = none)
    (hq : RowsIn G news e qs) (hqs : 0 < qs.length) (hc : n + qs.length ≤ c) (hrows : rows ≠ [] → ∃ b' o e', some (b, p) = some (b', o) ∧ repRows G b' o e' rows) (hrl : RL rows e) :
    Sit (addAt G b (p + n * e) news) (w.setRow b (cs.take (p + n * e) ++ news ++ cs.drop (p + n * e + news.length)).toArray) (setLoc φ q (n + qs.length) (some (b, p), c)) (fun i => if i = q then some (.tip e (n + qs.length)) else Hx i) ∧
    Goes G w φ Hx (addAt G b (p + n * e) news) (w.setRow b (cs.take (p + n * e) ++ news ++ cs.drop (p + n * e + news.length)).toArray) (setLoc φ q (n + qs.length) (some (b, p), c)) (fun i => if i = q then some (.tip e (n + qs.length)) else Hx i) ∧
    (V.gsl (rows ++ qs) q).rep (addAt G b (p + n * e) news) (setLoc φ q (n + qs.length) (some (b, p), c)) (.slice (some ⟨b, p, none⟩) (n + qs.length) c) := by
  have hnl := hq.1
  have hce : (n + qs.length) * e ≤ c * e := Nat.mul_le_mul_right _ hc
  rw [Nat.add_mul] at hce
  have hfit : p + n * e + news.length ≤ cs.length := by omega
  have hle := addAt_le hG news
  have hown : Owns φ q (.tip e n) b := by simp only [Owns, own, hφ]; rw [if_pos (by omega)]
  have hst := hs.step (G' := addAt G b (p + n * e) news) (w' := w.setRow b (cs.take (p + n * e) ++ news ++ cs.drop (p + n * e + news.length)).toArray) (φ' := setLoc φ q (n + qs.length) (some (b, p), c)) (H' := fun i => if i = q then some (.tip e (n + qs.length)) else Hx i) (fun i => i = q) hle (setLoc_le (hun _ (by omega))) (fun i hi m => setLoc_ne hi) rfl rfl rfl (by rw [setRow_size]; exact Nat.le_refl _)
    (fun k hk hno => by
      have hkb : k ≠ b := fun hkb => hno q _ rfl hH (by rw [hkb]; exact hown)
      exact ⟨setRow_other w b k _ hkb, fun j => by unfold addAt; rw [if_neg (fun hh => hkb hh.1)]⟩)
    (fun i hi => if_neg hi)
    (hs.inv.of hle (fun b' cs' T' fr' hb' h0 hall => by
      by_cases hbb : b' = b
      · subst hbb
        rw [hb] at hb'
        injection hb' with hb'; injection hb' with e1 e2 e3
        subst e1
        rcases Nat.eq_zero_or_pos news.length with hn0 | hn0
        · rw [setRow_heap w b' _ _ T fr hb, hb]
          have : news = [] := List.eq_nil_of_length_eq_zero hn0
          subst this
          simp
        · have := hall (p + n * e) (by simp; omega)
          rw [hG _ (Nat.le_refl _)] at this; cases this
      · exact setRow_other w b b' _ hbb) fun b' j v hg => by
      unfold addAt at hg
      split at hg
      · rename_i hh
        obtain ⟨rfl, h1, h2⟩ := hh
        refine .inl ⟨?_, hq.one _ (List.mem_of_getElem? hg)⟩
        rw [cell_us _ (setRow_heap w b' _ _ T fr hb), mid_get cs news (p + n * e) news.length rfl hfit, if_neg (by omega), if_pos h2]
        exact hg
      · by_cases hbb : b' = b
        · subst hbb
          have hj : j < p + n * e := by
            rcases Nat.lt_or_ge j (p + n * e) with h | h
            · exact h
            · rw [hG j h] at hg; cases hg
          refine (hs.inv.1 _ _ _ hg).go hle (fun h1 => ?_) fun hm => by rw [cell_us w hb, List.getElem?_eq_getElem (by omega)] at hm; cases hm
          rw [cell_us _ (setRow_heap w b' _ _ T fr hb), mid_get cs news (p + n * e) news.length rfl hfit, if_pos hj, ← cell_us w hb]
          exact h1
        · refine (hs.inv.1 _ _ _ hg).go hle (fun h1 => ?_) fun _ => setRow_other w b b' _ hbb
          rw [cell_setRow_other w b _ ⟨b', j, none⟩ hbb]
          exact h1)
    (fun i ob hi h1 => by
      subst hi; simp at h1; subst h1
      refine ⟨some (b, p), c, setLoc_same _ _ _ _, hc, fun m hm => ?_, fun hlt => ⟨b, p, _, T, fr, rfl, setRow_heap w b _ _ T fr hb, ?_, fun j hj => ?_, ?_⟩⟩
      · unfold setLoc; rw [if_neg (by omega)]; exact hun m (by omega)
      · simp only [List.size_toArray, List.length_append, List.length_take, List.length_drop]; omega
      · rw [Nat.add_mul] at hj
        unfold addAt
        rw [if_neg (by omega)]
        exact hG j (by omega)
      · rw [Nat.add_mul]; omega)
    (fun i j ob1 ob2 b hi hj hij => absurd (hi.trans hj.symm) hij)
    (fun i ob k hi h1 h2 => by
      subst hi; simp at h1; subst h1
      simp only [Owns, own, setLoc_same] at h2
      split at h2
      · injection h2 with h2; subst h2; exact .inl ⟨i, _, rfl, hH, hown⟩
      · cases h2)
    (fun i hi h1 => by subst hi; simp at h1)
  refine ⟨hst.1, hst.2, some (b, p), c, by rw [List.length_append, ← hn]; exact setLoc_same _ _ _ _, by rw [List.length_append, ← hn]; rfl, by rw [List.length_append, ← hn]; exact hc, fun _ => ⟨b, p, e, rfl, repRows_append ?_ ?_⟩⟩
  · by_cases hr : rows = []
    · rw [hr]; trivial
    · obtain ⟨b', o', e', h1, h2⟩ := hrows hr
      injection h1 with h1; injection h1 with h1 h1'; subst h1; subst h1'
      have he : e' = e := by
        obtain ⟨r, hr⟩ := List.exists_mem_of_ne_nil rows hr
        rw [← repRows_len h2 r hr, hrl r hr]
      subst he
      exact repRows_mono hle _ _ _ _ h2
  · refine hq.rows hle fun j u hj => ?_
    unfold addAt
    rw [← hn, if_pos ⟨rfl, by omega, by have := lt_of_get hj; omega⟩, show p + n * e + j - (p + n * e) = j by omega]
    exact hj
theorem list_of_array (cs : Array Value) : ∃ l : List Value, cs = l.toArray := ⟨cs.toList, by simp⟩
theorem pApp_sem (htt : TTok P tt) {t t2 : TypeId} {x y : Operand} {X Y : V} (ho : o.op = .call { callee := .builtin .append, args := #[x, y], argTypes := #[t, t2] }) (hx : ev ρ x = some X) (hy : ev ρ y = some Y) (h : pApp tt t t2 X Y H K) : ∃ e, K e ∧ Tri P o ρ H e := by
  have hox : x ∈ o.op.operands := by rw [ho]; simp [Op.operands, Call.operands]
  have hoy : y ∈ o.op.operands := by rw [ho]; simp [Op.operands, Call.operands]
  have run : ∀ (a : Act) (w w' : World) (v : Value), (Builtin.append_ #[t, t2] o.type #[a.eval x, a.eval y]).run P w = .ok v w' → (execOp a.eval o).run P w = .ok (.value v) w' := by
    intro a w w' v e1
    unfold execOp
    rw [ho]
    simp [resolve, invoke, builtin, e1]
  unfold pApp at h
  split at h
  · rename_i e qs he hqs
    obtain ⟨ti, d, h1, h2, _, _, h3, _⟩ := tt_get htt he
    split at h
    · rename_i el hk
      rw [hk] at h3; rw [mkK_slice h3] at h2
      split at h
      · rename_i te hte
        obtain ⟨i, d', i1, i2, i3, i4, _, i5⟩ := tt_get htt hte
        split at h
        · rename_i z hz
          rw [hz, Option.bind_eq_some_iff] at i5
          obtain ⟨v0, hv0, hvz⟩ := i5
          obtain ⟨hc, h'⟩ := condP_out h
          clear h
          simp only [Bool.and_eq_true] at hc
          obtain ⟨⟨c0, c1⟩, c2⟩ := hc
          have c1 := Nat.eq_of_beq_eq_true c1
          have c2 := Nat.le_of_ble_eq_true c2
          have zsz : ∀ n, (Builtin.zeroCells v0.cells n).toList.length = n * te.size := by
            intro n
            have : v0.cells.size = te.size := by
              have := repVs_len (V.cells_rep' (ofConst_rep hvz (fun _ _ => none) (fun _ _ => none)) c0).1
              simp at this; omega
            rw [Array.length_toList, size_zeroCells, this]
          have fits : ∀ n m c, c < n + m → n + m ≤ 1073741824 → Builtin.nextslicecap (n + m) c * i.bytes ≤ 281474976710656 := by
            intro n m c hlt hle
            refine growslice_fits hlt ?_
            rw [i4]
            exact Nat.le_trans (Nat.mul_le_mul hle c2) (by omega)
          split at h'
          · rename_i rows
            obtain ⟨⟨hrl, hql, hlen⟩, hK0⟩ := h'
            rw [List.length_append] at hlen
            refine ⟨_, hK0, ⟨by simp, by simp, fun a G w φ Hx K Q hs hr ha hf hK => ?_⟩⟩
            have hn : Hx H.length = none := hf _ (Nat.le_refl _) (by simp)
            obtain ⟨A, e1, e2⟩ := hr x _ hox hx
            obtain ⟨d2, g1, g2, g3, news, g4, g5⟩ := rowsX_run (P := P) htt hqs hql (hr y _ hoy hy) w hs.inv
            rw [upd_tip] at hK
            unfold Oper.wp
            by_cases hm : qs.length = 0
            · have hq0 : qs = [] := List.eq_nil_of_length_eq_zero hm
              subst hq0
              have hn0 : news = [] := List.eq_nil_of_length_eq_zero (by rw [g4.1]; simp)
              subst hn0
              have hr1 := run_app_same (P := P) w t t2 o.type el d2 i h2 g1 g2 i1 (Addr0 A) rows.length rows.length (a.eval y) g3 (by rw [i3]; exact g5) (Nat.le_refl _)
              rw [← e1] at hr1
              rw [run a w w _ hr1, Oper.upon_value]
              simp only [List.append_nil] at hK ⊢
              have hst := hs.step (G' := G) (w' := w) (φ' := setLoc φ H.length rows.length (A, rows.length)) (H' := fun i => if i = H.length then some (.tip te.size rows.length) else Hx i) (fun i => i = H.length) (Imm.le.refl _) (setLoc_le (hs.un _ hn _)) (fun i hi m => setLoc_ne hi) rfl rfl rfl (Nat.le_refl _)
                (fun b hb _ => ⟨rfl, fun _ => rfl⟩) (fun i hi => if_neg hi) hs.inv
                (fun i ob hi h1 => by
                  subst hi; simp at h1; subst h1
                  exact ⟨A, rows.length, setLoc_same _ _ _ _, Nat.le_refl _, fun m hm => by unfold setLoc; rw [if_neg (by omega)]; exact hs.un _ hn m, fun hlt => absurd hlt (Nat.lt_irrefl _)⟩)
                (fun i j ob1 ob2 b hi hj hij => absurd (hi.trans hj.symm) hij)
                (fun i ob b hi h1 h2 => by
                  subst hi; simp at h1; subst h1
                  simp only [Owns, own, setLoc_same] at h2
                  split at h2
                  · rename_i hh
                    simp only [Option.some.injEq, Prod.mk.injEq] at hh
                    split at h2
                    · omega
                    · cases h2
                  · cases h2)
                (fun i hi h1 => by subst hi; simp at h1)
              exact hK _ _ _ _ hst.1 hst.2 ⟨A, rows.length, setLoc_same _ _ _ _, e1, Nat.le_refl _, e2⟩
            · obtain ⟨olds, o1, o2⟩ := sl_cells (P := P) (w := w.drew) hs.inv.drew (c := rows.length) hrl e2
              obtain ⟨_, _, _, _, news', g4', g5'⟩ := rowsX_run (P := P) htt hqs hql (hr y _ hoy hy) w.drew hs.inv.drew
              have hr1 := run_app_grow (P := P) w t t2 o.type el d2 i v0 h2 g1 g2 i1 hv0 (Addr0 A) rows.length rows.length qs.length (a.eval y) olds news' g3 (by rw [i3]; exact g5') (by rw [i3]; exact o2) (by omega) (by omega) (fits _ _ _ (by omega) hlen)
              rw [← e1] at hr1
              rw [run a w _ _ hr1, Oper.upon_value]
              have hge := grownCap_ge w (rows.length + qs.length) rows.length el
              have hst := hs.drew.grow H.length te.size (rows.length + qs.length) (grownCap w (rows.length + qs.length) rows.length el) (olds ++ news') (Builtin.zeroCells v0.cells (grownCap w (rows.length + qs.length) rows.length el - (rows.length + qs.length))).toList (rows ++ qs) el (o1.append g4') (by rw [List.length_append]) hge (zsz _) (fun m hm => hs.un _ hn m) (fun _ _ _ _ => trivial)
              have hst2 : Goes G w φ Hx _ _ _ _ := (Goes.drew G w φ Hx).trans hst.2.1
              rw [List.length_append] at hK
              exact hK _ _ _ _ hst.1 hst2 hst.2.2
          · rename_i rows q
            split at h'
            · rename_i esz n hH
              obtain ⟨hes, ⟨hnr, hrl, hql, hlen⟩, hK0⟩ := condP_out h'
              have hes := Nat.eq_of_beq_eq_true hes
              subst hes
              rw [List.length_append] at hlen
              have hqlt := lt_of_get hH
              refine ⟨_, hK0, ⟨by simp, by simpa using hqlt, fun a G w φ Hx K Q hs hr ha hf hK => ?_⟩⟩
              obtain ⟨A, c, e0, e1, e3, e2⟩ := hr x _ hox hx
              obtain ⟨d2, g1, g2, g3, news, g4, g5⟩ := rowsX_run (P := P) htt hqs hql (hr y _ hoy hy) w hs.inv
              have hHx : Hx q = some (.tip te.size n) := (ha q (.inr ⟨_, List.mem_singleton.2 rfl, rfl⟩)).trans hH
              obtain ⟨A', c', f1, f2, f3, f4⟩ := hs.holds q _ hHx
              rw [hnr, e0] at f1; injection f1 with f1; injection f1 with f1 f1'; subst f1; subst f1'
              rw [upd_one] at hK
              unfold Oper.wp
              by_cases hm : qs.length = 0
              · have hq0 : qs = [] := List.eq_nil_of_length_eq_zero hm
                subst hq0
                have hn0 : news = [] := List.eq_nil_of_length_eq_zero (by rw [g4.1]; simp)
                subst hn0
                have hr1 := run_app_same (P := P) w t t2 o.type el d2 i h2 g1 g2 i1 (Addr0 A) rows.length c (a.eval y) g3 (by rw [i3]; exact g5) e3
                rw [← e1] at hr1
                rw [run a w w _ hr1, Oper.upon_value]
                simp only [List.append_nil] at hK ⊢
                have hsame : (fun i => if i = q then some (Ob.tip te.size rows.length) else Hx i) = Hx := by
                  funext i
                  by_cases hi : i = q
                  · rw [if_pos hi, hi, hHx, hnr]
                  · rw [if_neg hi]
                rw [hsame] at hK
                exact hK _ _ _ _ hs (Goes.refl _ _ _ _) ⟨A, c, e0, e1, e3, e2⟩
              · by_cases hroom : rows.length + qs.length ≤ c
                · obtain ⟨b, p, cs, T, fr, rfl, k1, k2, k3, k4⟩ := f4 (by omega)
                  obtain ⟨cl, rfl⟩ := list_of_array cs
                  have hce : (rows.length + qs.length) * te.size ≤ c * te.size := Nat.mul_le_mul_right _ hroom
                  rw [Nat.add_mul] at hce
                  have hnl := g4.1
                  simp at k2
                  have hst0 := run_storeCells_atF P b (p + rows.length * te.size) T fr news 0 cl.toArray w k1 (by rw [← hnr]; omega) (by simp; omega) g4.one
                  simp only [Nat.add_zero] at hst0
                  have hr1 := run_app_room (P := P) w t t2 o.type el d2 i h2 g1 g2 i1 b p rows.length c qs.length (a.eval y) news _ g3 (by rw [i3]; exact g5) hroom (by rw [i3]; exact hst0)
                  rw [show (some ⟨b, p, none⟩ : Option Addr) = Addr0 (some (b, p)) from rfl, ← e1] at hr1
                  rw [run a w _ _ hr1, Oper.upon_value]
                  have hst := hs.room q b p te.size n c cl T fr news rows qs hHx hnr (by rw [hnr]; exact e0) k1 k2 k3 k4 f3 g4 (by omega) (by omega) e2 hrl
                  rw [List.length_append, ← hnr] at hK
                  rw [← hnr]
                  exact hK _ _ _ _ hst.1 hst.2.1 hst.2.2
                · obtain ⟨olds, o1, o2⟩ := sl_cells (P := P) (w := w.drew) hs.inv.drew (c := c) hrl e2
                  obtain ⟨_, _, _, _, news', g4', g5'⟩ := rowsX_run (P := P) htt hqs hql (hr y _ hoy hy) w.drew hs.inv.drew
                  have hr1 := run_app_grow (P := P) w t t2 o.type el d2 i v0 h2 g1 g2 i1 hv0 (Addr0 A) rows.length c qs.length (a.eval y) olds news' g3 (by rw [i3]; exact g5') (by rw [i3]; exact o2) (by omega) (by omega) (fits _ _ _ (by omega) hlen)
                  rw [← e1] at hr1
                  rw [run a w _ _ hr1, Oper.upon_value]
                  have hge := grownCap_ge w (rows.length + qs.length) c el
                  have hst := hs.drew.grow q te.size (rows.length + qs.length) (grownCap w (rows.length + qs.length) c el) (olds ++ news') (Builtin.zeroCells v0.cells (grownCap w (rows.length + qs.length) c el - (rows.length + qs.length))).toList (rows ++ qs) el (o1.append g4') (by rw [List.length_append]) hge (zsz _) (fun m hm => f3 m (by omega)) (fun _ _ _ _ => trivial)
                  have hst2 : Goes G w φ Hx _ _ _ _ := (Goes.drew G w φ Hx).trans hst.2.1
                  rw [List.length_append] at hK
                  exact hK _ _ _ _ hst.1 hst2 hst.2.2
            · exact h'.elim
          · exact h'.elim
        · exact h.elim
      · exact h.elim
    · exact h.elim
  · exact h.elim
/-- Something appended to a slice without room, as an array that may be written. -/
def pAppArr (tt : TT) (t t2 : TypeId) (X Y : V) (H : List Ob) (K : Eff → Prop) : Prop :=
  match tt t, rowsX tt t2 Y with
  | some e, some qs =>
    match e.kind with
    | .slice el => match tt el with
      | some te => match te.zero with
        | some z => condP (z.cellB && Nat.beq z.cells.length te.size && Nat.ble te.bytes 65536) (match X with
          | .fsl rows => (RL rows te.size ∧ RL qs te.size ∧ (rows ++ qs).length ≤ 1073741824 ∧ qs ≠ []) ∧ K ⟨.arr H.length 0 (rows ++ qs).length, [], [], [.parr te.size (rows ++ qs)]⟩
          | _ => False)
        | none => False
      | none => False
    | _ => False
  | _, _ => False
theorem pAppArr_sem (htt : TTok P tt) {t t2 : TypeId} {x y : Operand} {X Y : V} (ho : o.op = .call { callee := .builtin .append, args := #[x, y], argTypes := #[t, t2] }) (hx : ev ρ x = some X) (hy : ev ρ y = some Y) (h : pAppArr tt t t2 X Y H K) : ∃ e, K e ∧ Tri P o ρ H e := by
  have hox : x ∈ o.op.operands := by rw [ho]; simp [Op.operands, Call.operands]
  have hoy : y ∈ o.op.operands := by rw [ho]; simp [Op.operands, Call.operands]
  have run : ∀ (a : Act) (w w' : World) (v : Value), (Builtin.append_ #[t, t2] o.type #[a.eval x, a.eval y]).run P w = .ok v w' → (execOp a.eval o).run P w = .ok (.value v) w' := by
    intro a w w' v e1
    unfold execOp
    rw [ho]
    simp [resolve, invoke, builtin, e1]
  unfold pAppArr at h
  split at h
  · rename_i e qs he hqs
    obtain ⟨ti, d, h1, h2, _, _, h3, _⟩ := tt_get htt he
    split at h
    · rename_i el hk
      rw [hk] at h3; rw [mkK_slice h3] at h2
      split at h
      · rename_i te hte
        obtain ⟨i, d', i1, i2, i3, i4, _, i5⟩ := tt_get htt hte
        split at h
        · rename_i z hz
          rw [hz, Option.bind_eq_some_iff] at i5
          obtain ⟨v0, hv0, hvz⟩ := i5
          obtain ⟨hc, h'⟩ := condP_out h
          clear h
          simp only [Bool.and_eq_true] at hc
          obtain ⟨⟨c0, c1⟩, c2⟩ := hc
          have c2 := Nat.le_of_ble_eq_true c2
          have fits : ∀ n m c, c < n + m → n + m ≤ 1073741824 → Builtin.nextslicecap (n + m) c * i.bytes ≤ 281474976710656 := by
            intro n m c hlt hle
            refine growslice_fits hlt ?_
            rw [i4]
            exact Nat.le_trans (Nat.mul_le_mul hle c2) (by omega)
          split at h'
          · rename_i rows
            obtain ⟨⟨hrl, hql, hlen, hne⟩, hK0⟩ := h'
            rw [List.length_append] at hlen
            refine ⟨_, hK0, ⟨by simp, by simp, fun a G w φ Hx K Q hs hr ha hf hK => ?_⟩⟩
            have hn : Hx H.length = none := hf _ (Nat.le_refl _) (by simp)
            obtain ⟨A, e1, e2⟩ := hr x _ hox hx
            obtain ⟨d2, g1, g2, g3, news, g4, g5⟩ := rowsX_run (P := P) htt hqs hql (hr y _ hoy hy) w hs.inv
            rw [upd_tip] at hK
            unfold Oper.wp
            have hm : qs.length ≠ 0 := fun h0 => hne (List.eq_nil_of_length_eq_zero h0)
            obtain ⟨olds, o1, o2⟩ := sl_cells (P := P) (w := w.drew) hs.inv.drew (c := rows.length) hrl e2
            obtain ⟨_, _, _, _, news', g4', g5'⟩ := rowsX_run (P := P) htt hqs hql (hr y _ hoy hy) w.drew hs.inv.drew
            have hr1 := run_app_grow (P := P) w t t2 o.type el d2 i v0 h2 g1 g2 i1 hv0 (Addr0 A) rows.length rows.length qs.length (a.eval y) olds news' g3 (by rw [i3]; exact g5') (by rw [i3]; exact o2) (by omega) (by omega) (fits _ _ _ (by omega) hlen)
            rw [← e1] at hr1
            rw [run a w _ _ hr1, Oper.upon_value]
            have hge := grownCap_ge w (rows.length + qs.length) rows.length el
            have hri := o1.append g4'
            obtain ⟨zs, hzs⟩ : ∃ zs, (Builtin.zeroCells v0.cells (grownCap w (rows.length + qs.length) rows.length el - (rows.length + qs.length))).toList = zs := ⟨_, rfl⟩
            rw [hzs]
            have hG : ∀ j, G w.heap.size j = none := fun j => hs.inv.fresh (Nat.le_refl _) j
            have hst := Sit.add hs.drew H.length 0 te.size (.parr te.size (rows ++ qs)) (.cells (olds ++ news' ++ zs).toArray el) hn
              ⟨w.heap.size, el, olds ++ news' ++ zs, setLoc_same .., heap_new w.drew _, by rw [List.length_append (as := olds ++ news'), hri.1]; omega, fun k r hk => ⟨(hri.2 k r hk).1, fun j d hj => by
                obtain ⟨u, u1, u2⟩ := (hri.2 k r hk).2 j d hj
                exact ⟨u, by rw [List.getElem?_append_left (lt_of_get u1)]; exact u1, u2⟩⟩, hG⟩
              (fun b hb => by
                simp only [Owns, own] at hb
                rw [setLoc_same] at hb
                injection hb with hb; exact hb.symm)
            exact hK _ _ _ _ hst.1 ((Goes.drew G w φ Hx).trans hst.2) ⟨w.heap.size, te.size, setLoc_same .., _, by rw [List.length_append]; exact hge, by rw [List.length_append, Nat.zero_mul]⟩
          · exact h'.elim
        · exact h.elim
      · exact h.elim
    · exact h.elim
  · exact h.elim
end
end Go.Proofs.YtblnfodnkacbbaaGreatDoor.Q

namespace Go.Proofs.YtblnfodnkacbbaaGreatDoor.Q
variable [Amb]

/-! ### other numbers for objects -/
mutual
def V.ren (f : Nat → Option Nat) : V → Option V
  | .d x => some (.d x)
  | .agg cs => match rens f cs with | some ys => some (.agg ys) | none => none
  | .tup cs => match rens f cs with | some ys => some (.tup ys) | none => none
  | .ptr id off => match f id with | some i => some (.ptr i off) | none => none
  | .iptr row => some (.iptr row)
  | .eptr id i off => match f id with | some j => some (.eptr j i off) | none => none
  | .fsl rows => some (.fsl rows)
  | .gsl rows t => match f t with | some i => some (.gsl rows i) | none => none
  | .vsl _ => none
  | .arr id off len => match f id with | some i => some (.arr i off len) | none => none
  | .map id => match f id with | some i => some (.map i) | none => none
  | .fn g fs cs => match rens f fs with
    | some xs => match rens f cs with
      | some ys => some (.fn g xs ys)
      | none => none
    | none => none
  | .yld id => match f id with
    | some i => some (.yld i)
    | none => none
  | .lookT id x => match f id with | some i => some (.lookT i x) | none => none
  | .lookV id x => match f id with | some i => some (.lookV i x) | none => none
  | .lookB id => match f id with | some i => some (.lookB i) | none => none
  | .undef => some .undef
def rens (f : Nat → Option Nat) : List V → Option (List V)
  | [] => some []
  | x :: xs => match x.ren f with
    | some y => match rens f xs with
      | some ys => some (y :: ys)
      | none => none
    | none => none
end
def Moves (f : Nat → Option Nat) (φ1 φ2 : Loc) : Prop := ∀ id i, f id = some i → ∀ n z, φ1 id n = some z → φ2 i n = some z
mutual
theorem V.ren_rep {f : Nat → Option Nat} {φ1 φ2 : Loc} (hf : Moves f φ1 φ2) {G : Imm} : ∀ (x y : V) (v : Value), x.ren f = some y → x.rep G φ1 v → y.rep G φ2 v
  | .d x, y, v, h, k => by injection h with h; subst h; exact k
  | .agg cs, y, v, h, k => by
    unfold V.ren at h
    split at h
    · rename_i ys hys
      injection h with h; subst h
      obtain ⟨us, e, h1, h2⟩ := k
      exact ⟨us, e, rens_rep hf cs ys us hys h1, h2⟩
    · cases h
  | .tup cs, y, v, h, k => by
    unfold V.ren at h
    split at h
    · rename_i ys hys
      injection h with h; subst h
      obtain ⟨us, e, h1⟩ := k
      exact ⟨us, e, rens_rep hf cs ys us hys h1⟩
    · cases h
  | .ptr id off, y, v, h, k => by
    unfold V.ren at h
    split at h
    · rename_i i hi
      injection h with h; subst h
      obtain ⟨b, c, h1, h2⟩ := k
      exact ⟨b, c, hf id i hi _ _ h1, h2⟩
    · cases h
  | .iptr row, y, v, h, k => by injection h with h; subst h; exact k
  | .eptr id j off, y, v, h, k => by
    unfold V.ren at h
    split at h
    · rename_i i hi
      injection h with h; subst h
      obtain ⟨b, c, h1, h2⟩ := k
      exact ⟨b, c, hf id i hi _ _ h1, h2⟩
    · cases h
  | .fsl rows, y, v, h, k => by injection h with h; subst h; exact k
  | .gsl rows t, y, v, h, k => by
    unfold V.ren at h
    split at h
    · rename_i i hi
      injection h with h; subst h
      obtain ⟨A, c, h1, h2⟩ := k
      exact ⟨A, c, hf t i hi _ _ h1, h2⟩
    · cases h
  | .vsl rows, y, v, h, k => by unfold V.ren at h; cases h
  | .arr id off len, y, v, h, k => by
    unfold V.ren at h
    split at h
    · rename_i i hi
      injection h with h; subst h
      obtain ⟨b, c, h1, h2⟩ := k
      exact ⟨b, c, hf id i hi _ _ h1, h2⟩
    · cases h
  | .map id, y, v, h, k => by
    unfold V.ren at h
    split at h
    · rename_i i hi
      injection h with h; subst h
      obtain ⟨b, c, h1, h2⟩ := k
      exact ⟨b, c, hf id i hi _ _ h1, h2⟩
    · cases h
  | .fn g fs cs, y, v, h, k => by
    unfold V.ren at h
    split at h
    · rename_i xs hxs
      split at h
      · rename_i ys hys
        injection h with h; subst h
        obtain ⟨us, vs, e, h1, h2⟩ := k
        exact ⟨us, vs, e, rens_rep hf fs xs us hxs h1, rens_rep hf cs ys vs hys h2⟩
      · cases h
    · cases h
  | .yld id, y, v, h, k => by
    unfold V.ren at h
    split at h
    · rename_i i hi
      injection h with h; subst h
      obtain ⟨b, c, h1, h2⟩ := k
      exact ⟨b, c, hf id i hi _ _ h1, h2⟩
    · cases h
  | .lookT id x, y, v, h, k => by
    unfold V.ren at h
    split at h
    · rename_i i hi
      injection h with h; subst h
      obtain ⟨c, s, h1, h2⟩ := k
      exact ⟨c, s, hf id i hi _ _ h1, h2⟩
    · cases h
  | .lookV id x, y, v, h, k => by
    unfold V.ren at h
    split at h
    · rename_i i hi
      injection h with h; subst h
      obtain ⟨c, h1, h2⟩ := k
      exact ⟨c, hf id i hi _ _ h1, h2⟩
    · cases h
  | .lookB id, y, v, h, k => by
    unfold V.ren at h
    split at h
    · rename_i i hi
      injection h with h; subst h
      obtain ⟨c, h1, h2⟩ := k
      exact ⟨c, hf id i hi _ _ h1, h2⟩
    · cases h
  | .undef, y, v, h, k => by injection h with h; subst h; exact k
theorem rens_rep {f : Nat → Option Nat} {φ1 φ2 : Loc} (hf : Moves f φ1 φ2) {G : Imm} : ∀ (xs ys : List V) (us : List Value), rens f xs = some ys → repVs G φ1 xs us → repVs G φ2 ys us
  | [], ys, us, h, k => by injection h with h; subst h; exact k
  | x :: xs, ys, us, h, k => by
    unfold rens at h
    split at h
    · rename_i y hy
      split at h
      · rename_i zs hzs
        injection h with h; subst h
        obtain ⟨u, us', e, h1, h2⟩ := k
        exact ⟨u, us', e, x.ren_rep hf y u hy h1, rens_rep hf xs zs us' hzs h2⟩
      · cases h
    · cases h
end
def Ob.ren (f : Nat → Option Nat) : Ob → Option Ob
  | .box cells => match rens f cells with | some ys => some (.box ys) | none => none
  | .tip e n => some (.tip e n)
  | .parr e rows => some (.parr e rows)
  | .hist xs => some (.hist xs)
  | .mp ks vs => match rens f ks, rens f vs with
    | some ks', some vs' => some (.mp ks' vs')
    | _, _ => none
  | .bld T e u s rest => match rens f rest with | some ys => some (.bld T e u s ys) | none => none
  | .iset xs => some (.iset xs)
  | .iter xs seen => some (.iter xs seen)
  | .flag => some .flag
  | .dead => some .dead
theorem Ob.ren_holds {f : Nat → Option Nat} {φ1 φ2 : Loc} (hf : Moves f φ1 φ2) {G : Imm} {w : World} {id i : Nat} (hi : ∀ n, φ2 i n = φ1 id n) {ob ob' : Ob} (h : ob.ren f = some ob') (k : Holds G w φ1 id ob) : Holds G w φ2 i ob' := by
  cases ob with
  | box cells =>
    unfold Ob.ren at h
    dsimp only at h
    split at h
    · rename_i ys hys
      injection h with h; subst h
      obtain ⟨b, c, T, us, h1, h2, h3, h4, h5⟩ := k
      exact ⟨b, c, T, us, by rw [hi]; exact h1, h2, rens_rep hf _ _ _ hys h3, h4, h5⟩
    · cases h
  | tip e n =>
    injection h with h; subst h
    obtain ⟨A, c, h1, h2, h3, h4⟩ := k
    exact ⟨A, c, by rw [hi]; exact h1, h2, fun m hm => by rw [hi]; exact h3 m hm, h4⟩
  | parr e rows =>
    injection h with h; subst h
    obtain ⟨b, T, us, h1, h2⟩ := k
    exact ⟨b, T, us, by rw [hi]; exact h1, h2⟩
  | iset xs =>
    injection h with h; subst h
    obtain ⟨b, c, es, clk, l, bs, h1, h2⟩ := k
    exact ⟨b, c, es, clk, l, bs, by rw [hi]; exact h1, h2⟩
  | iter xs seen =>
    injection h with h; subst h
    obtain ⟨b, c, h1, h2⟩ := k
    exact ⟨b, c, by rw [hi]; exact h1, h2⟩
  | flag =>
    injection h with h; subst h
    obtain ⟨c, h1⟩ := k
    exact ⟨c, by rw [hi]; exact h1⟩
  | hist xs =>
    injection h with h; subst h
    obtain ⟨⟨c, h1⟩, h2⟩ := k
    refine ⟨⟨c, by rw [hi]; exact h1⟩, ?_⟩
    have e : (fun b => (φ2 i (b + 1)).isSome = true) = (fun b => (φ1 id (b + 1)).isSome = true) := by funext b; rw [hi]
    rw [e]; exact h2
  | mp ks vs =>
    unfold Ob.ren at h
    dsimp only at h
    split at h
    · rename_i ks' vs' hk hv
      injection h with h; subst h
      obtain ⟨b, c, es, clk, h1, h2, h3, h4, h5⟩ := k
      exact ⟨b, c, es, clk, by rw [hi]; exact h1, h2, rens_rep hf _ _ _ hk h3, rens_rep hf _ _ _ hv h4, h5⟩
    · cases h
  | bld T e u s rest =>
    unfold Ob.ren at h
    dsimp only at h
    split at h
    · rename_i ys hys
      injection h with h; subst h
      obtain ⟨b, v, us, h1, h2, h3, h4, h5, h6, h7, h8, h9, h10⟩ := k
      exact ⟨b, v, us, by rw [hi]; exact h1, h2, rens_rep hf _ _ _ hys h3, h4, h5, h6, h7, fun g hg => by rw [hi]; exact h8 g hg, fun g hg => by rw [hi] at hg; exact h9 g hg, h10⟩
    · cases h
  | dead => injection h with h; subst h; trivial
theorem Ob.ren_own {f : Nat → Option Nat} {φ1 φ2 : Loc} {id i : Nat} (hi : ∀ n, φ2 i n = φ1 id n) {ob ob' : Ob} (h : ob.ren f = some ob') : Owns φ2 i ob' = Owns φ1 id ob := by
  funext b
  cases ob with
  | box cells =>
    unfold Ob.ren at h
    dsimp only at h
    split at h
    · injection h with h; subst h; simp only [Owns, own, hi]
    · cases h
  | tip e n => injection h with h; subst h; simp only [Owns, own, hi]
  | parr e rows => injection h with h; subst h; simp only [Owns, own, hi]
  | iset xs => injection h with h; subst h; simp only [Owns, own, hi]
  | iter xs seen => injection h with h; subst h; simp only [Owns, own, hi]
  | flag => injection h with h; subst h; rfl
  | hist xs => injection h with h; subst h; simp only [Owns, hi]
  | mp ks vs =>
    unfold Ob.ren at h
    dsimp only at h
    split at h
    · injection h with h; subst h; simp only [Owns, own, hi]
    · cases h
  | bld T e u s rest =>
    unfold Ob.ren at h
    dsimp only at h
    split at h
    · injection h with h; subst h; simp only [Owns, hi]
    · cases h
  | dead => injection h with h; subst h; rfl

/-! ### what is handed on -/
mutual
/-- Handed on, or handed back: without the room behind slices. -/
def V.plain : V → V
  | .fsl rows => .d (.sl rows)
  | .gsl rows _ => .d (.sl rows)
  | .agg cs => .agg (plains cs)
  | .tup cs => .tup (plains cs)
  | .d x => .d x
  | .ptr i o => .ptr i o
  | .iptr r => .iptr r
  | .eptr i j o => .eptr i j o
  | .vsl r => .vsl r
  | .arr i o l => .arr i o l
  | .map i => .map i
  | .fn f a b => .fn f a b
  | .yld id => .yld id
  | .lookT id x => .lookT id x
  | .lookV id x => .lookV id x
  | .lookB id => .lookB id
  | .undef => .undef
def plains : List V → List V
  | [] => []
  | x :: xs => x.plain :: plains xs
end
mutual
theorem V.plain_rep {G : Imm} {φ : Loc} : ∀ (x : V) (v : Value), x.rep G φ v → x.plain.rep G φ v
  | .fsl rows, v, ⟨A, e, h⟩ => ⟨Addr0 A, _, e, Nat.le_refl _, a0 h⟩
  | .gsl rows t, v, ⟨A, c, _, e, h1, h2⟩ => ⟨Addr0 A, c, e, h1, a0 h2⟩
  | .agg cs, v, ⟨us, e, h1, h2⟩ => ⟨us, e, plains_rep cs us h1, h2⟩
  | .tup cs, v, ⟨us, e, h1⟩ => ⟨us, e, plains_rep cs us h1⟩
  | .d x, v, h => h
  | .ptr i o, v, h => h
  | .iptr r, v, h => h
  | .eptr i j o, v, h => h
  | .vsl r, v, h => h
  | .arr i o l, v, h => h
  | .map i, v, h => h
  | .fn f a b, v, h => h
  | .yld id, v, h => h
  | .lookT id x, v, h => h
  | .lookV id x, v, h => h
  | .lookB id, v, h => h
  | .undef, v, h => h
theorem plains_rep {G : Imm} {φ : Loc} : ∀ (xs : List V) (us : List Value), repVs G φ xs us → repVs G φ (plains xs) us
  | [], us, h => h
  | x :: xs, us, ⟨u, us', e, h1, h2⟩ => ⟨u, us', e, x.plain_rep u h1, plains_rep xs us' h2⟩
end
mutual
def V.ids : V → List Nat
  | .ptr i _ => [i]
  | .eptr i _ _ => [i]
  | .gsl _ t => [t]
  | .arr i _ _ => [i]
  | .map i => [i]
  | .agg cs => idsL cs
  | .tup cs => idsL cs
  | .fn _ a b => idsL a ++ idsL b
  | .d _ => []
  | .iptr _ => []
  | .fsl _ => []
  | .vsl _ => []
  | .yld id => [id]
  | .lookT id _ => [id]
  | .lookV id _ => [id]
  | .lookB id => [id]
  | .undef => []
def idsL : List V → List Nat
  | [] => []
  | x :: xs => x.ids ++ idsL xs
end
def Ob.ids : Ob → List Nat
  | .box cells => idsL cells
  | .mp ks vs => idsL ks ++ idsL vs
  | .bld _ _ _ _ rest => idsL rest
  | _ => []
def memB (i : Nat) : List Nat → Bool
  | [] => false
  | j :: r => bif Nat.beq i j then true else memB i r
/-- All that can be come to from some objects, in the order in which one comes to it. -/
def reach (H : List Ob) : Nat → List Nat → List Nat → List Nat
  | 0, _, acc => acc
  | _ + 1, [], acc => acc
  | n + 1, i :: todo, acc => bif memB i acc then reach H n todo acc else
    reach H n ((match H[i]? with | some ob => ob.ids | none => []) ++ todo) (acc ++ [i])
def pos (ids : List Nat) (i : Nat) : Option Nat := match ids with
  | [] => none
  | j :: r => bif Nat.beq j i then some 0 else match pos r i with
    | some k => some (k + 1)
    | none => none
theorem pos_get : ∀ {ids : List Nat} {i k : Nat}, pos ids i = some k → ids[k]? = some i
  | [], _, _, h => by cases h
  | j :: r, i, k, h => by
    unfold pos at h
    cases hb : Nat.beq j i with
    | true =>
      rw [hb] at h
      injection h with h
      subst h
      rw [Nat.eq_of_beq_eq_true hb]; rfl
    | false =>
      rw [hb] at h
      dsimp only [cond] at h
      split at h
      · rename_i k' hk
        injection h with h; subst h
        simpa using pos_get hk
      · cases h
theorem pos_none : ∀ {ids : List Nat} {i : Nat}, pos ids i = none → i ∉ ids
  | [], _, _ => by simp
  | j :: r, i, h => by
    unfold pos at h
    cases hb : Nat.beq j i with
    | true => rw [hb] at h; cases h
    | false =>
      rw [hb] at h
      dsimp only [cond] at h
      split at h
      · cases h
      · rename_i hk
        have hne : i ≠ j := fun e => by rw [e] at hb; simp at hb
        intro hm
        rcases List.mem_cons.1 hm with h1 | h1
        · exact hne h1
        · exact pos_none hk h1
def nodupB : List Nat → Bool
  | [] => true
  | i :: r => !memB i r && nodupB r
theorem memB_iff {i : Nat} : ∀ {l : List Nat}, memB i l = true ↔ i ∈ l
  | [] => by simp [memB]
  | j :: r => by
    unfold memB
    cases hb : Nat.beq i j with
    | true => simp [Nat.eq_of_beq_eq_true hb]
    | false =>
      have hne : i ≠ j := fun e => by rw [e] at hb; simp at hb
      simp only [cond]
      rw [memB_iff (l := r)]
      simp [hne]
theorem nodupB_spec : ∀ {l : List Nat}, nodupB l = true → l.Nodup
  | [], _ => List.nodup_nil
  | i :: r, h => by
    simp only [nodupB, Bool.and_eq_true, Bool.not_eq_true'] at h
    refine List.nodup_cons.2 ⟨fun hm => ?_, nodupB_spec h.2⟩
    rw [memB_iff.2 hm] at h; cases h.1
def obsAt (H : List Ob) (f : Nat → Option Nat) : List Nat → Option (List Ob)
  | [] => some []
  | i :: r => match H[i]? with
    | some ob => match ob.ren f with
      | some ob' => match obsAt H f r with
        | some obs => some (ob' :: obs)
        | none => none
      | none => none
    | none => none
theorem obsAt_get {H : List Ob} {f : Nat → Option Nat} : ∀ {ids : List Nat} {h : List Ob}, obsAt H f ids = some h → h.length = ids.length ∧ ∀ (k i : Nat), ids[k]? = some i → ∃ ob ob', H[i]? = some ob ∧ ob.ren f = some ob' ∧ h[k]? = some ob'
  | [], h, e => by injection e with e; subst e; exact ⟨rfl, by simp⟩
  | j :: r, h, e => by
    unfold obsAt at e
    split at e
    · rename_i ob hob
      split at e
      · rename_i ob' hob'
        split at e
        · rename_i obs hobs
          injection e with e; subst e
          obtain ⟨g1, g2⟩ := obsAt_get hobs
          refine ⟨by simp [g1], fun k i hk => ?_⟩
          cases k with
          | zero => simp at hk; subst hk; exact ⟨ob, ob', hob, hob', rfl⟩
          | succ k => simpa using g2 k i (by simpa using hk)
        · cases e
      · cases e
    · cases e

/-! ### contracts -/
/-- What a call does: its result and the objects that were lent, with those that are new behind them. -/
def PCalls (P : Program) (f : FuncId) (args : List V) (h : List Ob) (R : V → List Ob → Prop) : Prop :=
  (∃ fn, P.funcs[f]? = some fn ∧ (fn.name == "runtime.NumGoroutine") = false ∧ fn.body.isNone = false) ∧
  ∀ (G : Imm) (w : World) (φ : Loc) (vs : List Value), Sit G w φ (hp h) → repVs G φ args vs →
    Calls P f vs.toArray w fun e w' => ∃ v r h' G' φ', e = .returned v ∧ R r h' ∧ h.length ≤ h'.length ∧ Sit G' w' φ' (hp h') ∧ Goes G w φ (hp h) G' w' φ' (hp h') ∧ r.rep G' φ' v
/-- One result. -/
def PFun (P : Program) (f : FuncId) (args : List V) (h : List Ob) (r : V) (h' : List Ob) : Prop := PCalls P f args h fun r' h'' => r' = r ∧ h'' = h'
theorem PCalls.mono {P : Program} {f : FuncId} {args : List V} {h : List Ob} {R R' : V → List Ob → Prop} (c : PCalls P f args h R) (k : ∀ r h', R r h' → R' r h') : PCalls P f args h R' :=
  ⟨c.1, fun G w φ vs hs hr => (c.2 G w φ vs hs hr).mono fun e w' ⟨v, r, h', G', φ', h1, h2, h3⟩ => ⟨v, r, h', G', φ', h1, k _ _ h2, h3⟩⟩
theorem PFun.call {P : Program} {f : FuncId} {args : List V} {h : List Ob} {r : V} {h' : List Ob} {R : V → List Ob → Prop} (c : PFun P f args h r h') (k : R r h') : PCalls P f args h R :=
  PCalls.mono c fun r' h'' ⟨e1, e2⟩ => by rw [e1, e2]; exact k

/-- The numbers on the way back. -/
def back (ids : List Nat) (base : Nat) (i : Nat) : Option Nat := match ids[i]? with
  | some j => some j
  | none => some (base + (i - ids.length))
def obsRen (f : Nat → Option Nat) : List Ob → Option (List Ob)
  | [] => some []
  | ob :: r => match ob.ren f with
    | some ob' => match obsRen f r with
      | some obs => some (ob' :: obs)
      | none => none
    | none => none
theorem obsRen_get {f : Nat → Option Nat} : ∀ {obs obs' : List Ob}, obsRen f obs = some obs' → obs'.length = obs.length ∧ ∀ (k : Nat) ob, obs[k]? = some ob → ∃ ob', ob.ren f = some ob' ∧ obs'[k]? = some ob'
  | [], obs', e => by injection e with e; subst e; exact ⟨rfl, by simp⟩
  | ob :: r, obs', e => by
    unfold obsRen at e
    split at e
    · rename_i ob' hob'
      split at e
      · rename_i obs hobs
        injection e with e; subst e
        obtain ⟨g1, g2⟩ := obsRen_get hobs
        refine ⟨by simp [g1], fun k i hk => ?_⟩
        cases k with
        | zero => simp at hk; subst hk; exact ⟨ob', hob', rfl⟩
        | succ k => simpa using g2 k i (by simpa using hk)
      · cases e
    · cases e
/-- What the caller sees of a call's end. -/
def backE (ids : List Nat) (base : Nat) (r : V) (h' : List Ob) (K : Eff → Prop) : Prop :=
  match r.ren (back ids base), obsRen (back ids base) h' with
  | some x, some obs => condP (Nat.ble ids.length obs.length) (K ⟨x, [], ids.zip obs, obs.drop ids.length⟩)
  | _, _ => False
def lendE (H : List Ob) (xs : List V) (K : List Nat → List V → List Ob → Prop) : Prop :=
  match reach H 1000 (idsL xs) [] with
  | ids => match rens (pos ids) xs, obsAt H (pos ids) ids with
    | some ys, some h => condP (nodupB ids) (K ids ys h)
    | _, _ => False
end Go.Proofs.YtblnfodnkacbbaaGreatDoor.Q

namespace Go.Proofs.YtblnfodnkacbbaaGreatDoor.Q
variable [Amb]
section
variable {P : Program} {tt : TT} {o : Oper} {ρ : Env} {H : List Ob} {K : Eff → Prop}

/-- Where what is lent lies, by the callee's numbers. -/
def lentLoc (φ : Loc) (ids : List Nat) : Loc := fun i => match ids[i]? with
  | some j => φ j
  | none => fun _ => none
theorem lent_moves (φ : Loc) (ids : List Nat) : Moves (pos ids) φ (lentLoc φ ids) := fun id i hi n z hz => by
  unfold lentLoc; rw [pos_get hi]; exact hz
theorem lent_sit {G : Imm} {w : World} {φ : Loc} {Hx : Hp} {ids : List Nat} {h : List Ob} (hs : Sit G w φ Hx) (hnd : ids.Nodup) (ha : ∀ i, i ∈ ids → Hx i = H[i]?) (ho : obsAt H (pos ids) ids = some h) : Sit G w (lentLoc φ ids) (hp h) := by
  obtain ⟨hl, hg⟩ := obsAt_get ho
  have key : ∀ k ob', h[k]? = some ob' → ∃ i ob, ids[k]? = some i ∧ Hx i = some ob ∧ ob.ren (pos ids) = some ob' ∧ ∀ n, lentLoc φ ids k n = φ i n := by
    intro k ob' hk
    have hlt := lt_of_get hk
    rw [hl] at hlt
    have hi : ids[k]? = some ids[k] := List.getElem?_eq_getElem hlt
    obtain ⟨ob, ob2, g1, g2, g3⟩ := hg k _ hi
    rw [hk] at g3; injection g3 with g3; subst g3
    exact ⟨_, ob, hi, (ha _ (List.getElem_mem hlt)).trans g1, g2, fun n => by unfold lentLoc; rw [hi]⟩
  refine ⟨hs.inv, fun k ob' hk => ?_, fun k j ob1 ob2 b hkj h1 h2 o1 o2 => ?_, fun k hk n => ?_⟩
  · obtain ⟨i, ob, g1, g2, g3, g4⟩ := key k ob' hk
    exact Ob.ren_holds (lent_moves φ ids) g4 g3 (hs.holds i ob g2)
  · obtain ⟨i, ob, g1, g2, g3, g4⟩ := key k ob1 h1
    obtain ⟨i', ob', g1', g2', g3', g4'⟩ := key j ob2 h2
    rw [Ob.ren_own g4 g3] at o1
    rw [Ob.ren_own g4' g3'] at o2
    refine hs.dist i i' ob ob' b (fun e => hkj ?_) g2 g2' o1 o2
    subst e
    have l1 := lt_of_get g1
    have l2 := lt_of_get g1'
    rw [List.getElem?_eq_getElem l1] at g1
    rw [List.getElem?_eq_getElem l2] at g1'
    injection g1 with g1
    injection g1' with g1'
    exact (List.getElem_inj hnd).1 (g1.trans g1'.symm)
  · unfold lentLoc
    rw [List.getElem?_eq_none]
    have : h.length ≤ k := by
      rcases Nat.lt_or_ge k h.length with hlt | hge
      · rw [show hp h k = h[k]? from rfl, List.getElem?_eq_getElem hlt] at hk; cases hk
      · exact hge
    omega
theorem mem_pos : ∀ {ids : List Nat} {i : Nat}, i ∈ ids → ∃ k, pos ids i = some k := by
  intro ids i hm
  cases hp : pos ids i with
  | some k => exact ⟨k, rfl⟩
  | none => exact absurd hm (pos_none hp)
theorem lkO_zip : ∀ {ids : List Nat} {obs : List Ob} {i : Nat}, ids.length ≤ obs.length → lkO (ids.zip obs) i = match pos ids i with | some k => obs[k]? | none => none
  | [], obs, i, _ => by simp [lkO, pos]
  | j :: r, [], i, h => by simp at h
  | j :: r, ob :: obs, i, h => by
    rw [List.zip_cons_cons, lkO_cons]
    unfold pos
    by_cases hji : j = i
    · subst hji; simp
    · have : Nat.beq j i = false := by
        cases hb : Nat.beq j i with
        | false => rfl
        | true => exact absurd (Nat.eq_of_beq_eq_true hb) hji
      rw [if_neg hji, this]
      dsimp only [cond]
      rw [lkO_zip (ids := r) (by simpa using h)]
      cases pos r i <;> simp
/-- Where all lies behind the call, by the caller's numbers. -/
def backLoc (φ φc : Loc) (ids : List Nat) (base m : Nat) : Loc := fun j => match pos ids j with
  | some i => φc i
  | none => if base ≤ j ∧ j < base + m then φc (ids.length + (j - base)) else φ j
theorem call_back {G G' : Imm} {w w' : World} {φ φc : Loc} {Hx : Hp} {ids : List Nat} {h h' obs : List Ob} {x : V} (hs : Sit G w φ Hx) (hnd : ids.Nodup) (hlt : ∀ i ∈ ids, i < H.length) (ha : ∀ i, i ∈ ids → Hx i = H[i]?) (ho : obsAt H (pos ids) ids = some h)
    (hs' : Sit G' w' φc (hp h')) (hgo : Goes G w (lentLoc φ ids) (hp h) G' w' φc (hp h')) (hlen : h.length ≤ h'.length) (hob : obsRen (back ids H.length) h' = some obs) (hnew : ∀ i, H.length ≤ i → i < H.length + (obs.drop ids.length).length → Hx i = none) :
    Sit G' w' (backLoc φ φc ids H.length (obs.drop ids.length).length) (upd Hx H.length ⟨x, [], ids.zip obs, obs.drop ids.length⟩) ∧ Goes G w φ Hx G' w' (backLoc φ φc ids H.length (obs.drop ids.length).length) (upd Hx H.length ⟨x, [], ids.zip obs, obs.drop ids.length⟩) ∧ Moves (back ids H.length) φc (backLoc φ φc ids H.length (obs.drop ids.length).length) := by
  obtain ⟨hl, hg⟩ := obsAt_get ho
  obtain ⟨hol, hog⟩ := obsRen_get hob
  have hil : ids.length ≤ obs.length := by omega
  have hdl : (obs.drop ids.length).length = obs.length - ids.length := List.length_drop
  generalize hm : (obs.drop ids.length).length = m at *
  -- the caller's number j is the callee's number i
  have upd_lent : ∀ j i, pos ids j = some i → upd Hx H.length ⟨x, [], ids.zip obs, obs.drop ids.length⟩ j = obs[i]? := by
    intro j i hj
    have hi := lt_of_get (pos_get hj)
    simp only [upd, lkO_zip hil, hj]
    rw [List.getElem?_eq_getElem (by omega : i < obs.length)]
  have upd_new : ∀ j, pos ids j = none → H.length ≤ j → j < H.length + m → upd Hx H.length ⟨x, [], ids.zip obs, obs.drop ids.length⟩ j = obs[ids.length + (j - H.length)]? := by
    intro j hj h1 h2
    simp only [upd, lkO_zip hil, hj, hm]
    rw [if_pos ⟨h1, h2⟩, List.getElem?_drop]
  have upd_old : ∀ j, pos ids j = none → ¬ (H.length ≤ j ∧ j < H.length + m) → upd Hx H.length ⟨x, [], ids.zip obs, obs.drop ids.length⟩ j = Hx j := by
    intro j hj h1
    simp only [upd, lkO_zip hil, hj, hm]
    rw [if_neg h1]
  have loc_lent : ∀ j i, pos ids j = some i → backLoc φ φc ids H.length m j = φc i := fun j i hj => by unfold backLoc; rw [hj]
  have loc_new : ∀ j, pos ids j = none → H.length ≤ j → j < H.length + m → backLoc φ φc ids H.length m j = φc (ids.length + (j - H.length)) := fun j hj h1 h2 => by unfold backLoc; rw [hj]; exact if_pos ⟨h1, h2⟩
  have loc_old : ∀ j, pos ids j = none → ¬ (H.length ≤ j ∧ j < H.length + m) → backLoc φ φc ids H.length m j = φ j := fun j hj h1 => by unfold backLoc; rw [hj]; exact if_neg h1
  have posNew : ∀ j, H.length ≤ j → pos ids j = none := fun j hj => by
    cases hp : pos ids j with
    | none => rfl
    | some k => have := hlt j (List.mem_of_getElem? (pos_get hp)); omega
  have hbackloc : ∀ i, i < obs.length → ∃ j, back ids H.length i = some j ∧ backLoc φ φc ids H.length m j = φc i ∧ upd Hx H.length ⟨x, [], ids.zip obs, obs.drop ids.length⟩ j = obs[i]? := by
    intro i hi
    by_cases h1 : i < ids.length
    · have e1 : ids[i]? = some ids[i] := List.getElem?_eq_getElem h1
      obtain ⟨k, hk⟩ := mem_pos (List.getElem_mem h1)
      have e2 := pos_get hk
      have hki : k = i := by
        have l2 := lt_of_get e2
        rw [List.getElem?_eq_getElem l2] at e2
        injection e2 with e2
        exact (List.getElem_inj hnd).1 e2
      subst hki
      exact ⟨ids[k], by unfold back; rw [e1], loc_lent _ _ hk, upd_lent _ _ hk⟩
    · have e1 : ids[i]? = none := List.getElem?_eq_none (by omega)
      have hp := posNew (H.length + (i - ids.length)) (by omega)
      refine ⟨H.length + (i - ids.length), by unfold back; rw [e1], ?_, ?_⟩
      · rw [loc_new _ hp (by omega) (by omega)]; congr 1; omega
      · rw [upd_new _ hp (by omega) (by omega)]; congr 1; omega
  have hmov : Moves (back ids H.length) φc (backLoc φ φc ids H.length m) := by
    intro i j hij n z hz
    have hi : i < obs.length := by
      rcases Nat.lt_or_ge i obs.length with h1 | h1
      · exact h1
      · have := hs'.un i (List.getElem?_eq_none (by omega)) n
        rw [this] at hz; cases hz
    obtain ⟨j', e1, e2, _⟩ := hbackloc i hi
    rw [hij] at e1; injection e1 with e1; subst e1
    rw [e2]; exact hz
  -- what the touched objects are, in the callee's world
  have touched : ∀ j ob, ((∃ i, pos ids j = some i) ∨ (H.length ≤ j ∧ j < H.length + m)) → upd Hx H.length ⟨x, [], ids.zip obs, obs.drop ids.length⟩ j = some ob →
      ∃ (i : Nat) (obc : Ob), h'[i]? = some obc ∧ obc.ren (back ids H.length) = some ob ∧ (∀ n, backLoc φ φc ids H.length m j n = φc i n) ∧ back ids H.length i = some j := by
    intro j ob hj hob1
    have fin : ∀ i : Nat, obs[i]? = some ob → ∃ obc : Ob, h'[i]? = some obc ∧ obc.ren (back ids H.length) = some ob := by
      intro i hi
      have hi2 := lt_of_get hi
      obtain ⟨ob2, g1, g2⟩ := hog i h'[i] (List.getElem?_eq_getElem (by omega))
      rw [hi] at g2; injection g2 with g2; subst g2
      exact ⟨_, List.getElem?_eq_getElem (by omega), g1⟩
    rcases hj with ⟨i, hi⟩ | ⟨h1, h2⟩
    · rw [upd_lent j i hi] at hob1
      obtain ⟨obc, g1, g2⟩ := fin i hob1
      exact ⟨i, obc, g1, g2, fun n => by rw [loc_lent j i hi], by unfold back; rw [pos_get hi]⟩
    · rw [upd_new j (posNew j h1) h1 h2] at hob1
      obtain ⟨obc, g1, g2⟩ := fin _ hob1
      refine ⟨_, obc, g1, g2, fun n => by rw [loc_new j (posNew j h1) h1 h2], ?_⟩
      have e0 : ids[ids.length + (j - H.length)]? = none := List.getElem?_eq_none (by omega)
      unfold back
      rw [e0]
      show some (H.length + (ids.length + (j - H.length) - ids.length)) = some j
      rw [show H.length + (ids.length + (j - H.length) - ids.length) = j by omega]
  have hst := hs.stepM (G' := G') (w' := w') (φ' := backLoc φ φc ids H.length m) (H' := upd Hx H.length ⟨x, [], ids.zip obs, obs.drop ids.length⟩) (fun j => (∃ i, pos ids j = some i) ∨ (H.length ≤ j ∧ j < H.length + m)) hgo.le
    (fun j n z hz => by
      cases hp : pos ids j with
      | some i =>
        rw [loc_lent j i hp]
        refine hgo.ple i n z ?_
        unfold lentLoc; rw [pos_get hp]; exact hz
      | none =>
        by_cases hj : H.length ≤ j ∧ j < H.length + m
        · have := hs.un j (hnew j hj.1 hj.2) n
          rw [this] at hz; cases hz
        · rw [loc_old j hp hj]; exact hz)
    (fun j hj n => by
      have h1 : pos ids j = none := by
        cases hp : pos ids j with
        | none => rfl
        | some i => exact absurd (Or.inl ⟨i, hp⟩) hj
      rw [loc_old j h1 (fun h2 => hj (.inr h2))])
    hgo.os hgo.tape hgo.output hgo.size
    (fun b hb hno hm => hgo.block b hb (fun ⟨i, obc, hi, hown⟩ => by
      have hi1 := lt_of_get hi
      have hi2 : i < ids.length := by omega
      have e1 : ids[i]? = some ids[i] := List.getElem?_eq_getElem hi2
      obtain ⟨ob, ob', g1, g2, g3⟩ := hg i _ e1
      have hi' : h[i]? = some obc := hi
      rw [hi'] at g3; injection g3 with g3; subst g3
      obtain ⟨k, hk⟩ := mem_pos (List.getElem_mem hi2)
      refine hno ids[i] ob (.inl ⟨k, hk⟩) ((ha _ (List.getElem_mem hi2)).trans g1) ?_
      rw [← Ob.ren_own (φ2 := lentLoc φ ids) (i := i) (fun n => by unfold lentLoc; rw [e1]) g2]
      exact hown) hm)
    (fun j hj => by
      have h1 : pos ids j = none := by
        cases hp : pos ids j with
        | none => rfl
        | some i => exact absurd (Or.inl ⟨i, hp⟩) hj
      exact upd_old j h1 (fun h2 => hj (.inr h2)))
    hs'.inv
    (fun j ob hj hob1 => by
      obtain ⟨i, obc, g1, g2, g3, g4⟩ := touched j ob hj hob1
      exact Ob.ren_holds hmov g3 g2 (hs'.holds i obc g1))
    (fun j1 j2 ob1 ob2 b hj1 hj2 hne h1 h2 o1 o2 => by
      obtain ⟨i1, c1, a1, a2, a3, a4⟩ := touched j1 ob1 hj1 h1
      obtain ⟨i2, c2, b1, b2, b3, b4⟩ := touched j2 ob2 hj2 h2
      rw [Ob.ren_own a3 a2] at o1
      rw [Ob.ren_own b3 b2] at o2
      exact hs'.dist i1 i2 c1 c2 b (fun e => hne (by rw [e, b4] at a4; injection a4 with a4; exact a4.symm)) a1 b1 o1 o2)
    (fun j ob b hj h1 o1 => by
      obtain ⟨i, c, a1, a2, a3, a4⟩ := touched j ob hj h1
      rw [Ob.ren_own a3 a2] at o1
      rcases hgo.owns b ⟨i, c, a1, o1⟩ with ⟨k, obc, hk, hown⟩ | hge
      · have hk1 := lt_of_get hk
        have hk2 : k < ids.length := by omega
        have e1 : ids[k]? = some ids[k] := List.getElem?_eq_getElem hk2
        obtain ⟨ob0, ob', g1, g2, g3⟩ := hg k _ e1
        have hk' : h[k]? = some obc := hk
        rw [hk'] at g3; injection g3 with g3; subst g3
        obtain ⟨k', hk''⟩ := mem_pos (List.getElem_mem hk2)
        refine .inl ⟨ids[k], ob0, .inl ⟨k', hk''⟩, (ha _ (List.getElem_mem hk2)).trans g1, ?_⟩
        rw [← Ob.ren_own (φ2 := lentLoc φ ids) (i := k) (fun n => by unfold lentLoc; rw [e1]) g2]
        exact hown
      · exact .inr hge)
    (fun j hj h1 n => by
      exfalso
      rcases hj with ⟨i, hi⟩ | ⟨a1, a2⟩
      · rw [upd_lent j i hi] at h1
        have := lt_of_get (pos_get hi)
        rw [List.getElem?_eq_getElem (by omega : i < obs.length)] at h1; cases h1
      · rw [upd_new j (posNew j a1) a1 a2, List.getElem?_eq_getElem (by omega)] at h1; cases h1)
  exact ⟨hst.1, hst.2, hmov⟩
end
end Go.Proofs.YtblnfodnkacbbaaGreatDoor.Q

namespace Go.Proofs.YtblnfodnkacbbaaGreatDoor.Q
variable [Amb]

/-! ### writes in the text's order, of those that have been -/
section cur
variable {ι α : Type} (init : ι → α) (wr : Nat → ι → Option α)
def cur (D : Nat → Bool) : Nat → ι → α
  | 0, l => init l
  | k + 1, l => match D k, wr k l with
    | true, some v => v
    | _, _ => cur D k l
variable {init wr}
theorem cur_skip {D : Nat → Bool} {k : Nat} {l : ι} (h : D k = true → wr k l = none) : cur init wr D (k + 1) l = cur init wr D k l := by
  simp only [cur]
  cases hD : D k with
  | false => rfl
  | true => rw [h hD]
theorem cur_upto {D : Nat → Bool} {j : Nat} {l : ι} (h : ∀ k, k < j → D k = false → wr k l = none) : cur init wr D j l = cur init wr (fun _ => true) j l := by
  induction j with
  | zero => rfl
  | succ j ih =>
    have ih := ih fun k hk => h k (Nat.lt_succ_of_lt hk)
    simp only [cur]
    cases hw : wr j l with
    | none => cases D j <;> exact ih
    | some v =>
      cases hD : D j with
      | true => rfl
      | false => have := h j (Nat.lt_succ_self _) hD; rw [hw] at this; cases this
theorem cur_from {D : Nat → Bool} {j n : Nat} {l : ι} (hjn : j ≤ n) (h : ∀ k, j ≤ k → k < n → D k = true → wr k l = none) : cur init wr D n l = cur init wr D j l := by
  induction n with
  | zero => have : j = 0 := by omega
            subst this; rfl
  | succ n ih =>
    by_cases hj : j = n + 1
    · subst hj; rfl
    · rw [cur_skip (fun hD => h n (by omega) (Nat.lt_succ_self _) hD)]
      exact ih (by omega) fun k h1 h2 => h k h1 (Nat.lt_succ_of_lt h2)
theorem cur_read {D : Nat → Bool} {j n : Nat} {l : ι} (hjn : j ≤ n) (h1 : ∀ k, k < j → D k = false → wr k l = none) (h2 : ∀ k, j ≤ k → k < n → D k = true → wr k l = none) : cur init wr D n l = cur init wr (fun _ => true) j l :=
  (cur_from hjn h2).trans (cur_upto h1)
def also (D : Nat → Bool) (j : Nat) : Nat → Bool := fun k => if k = j then true else D k
theorem cur_other {D : Nat → Bool} {j n : Nat} {l : ι} (h : wr j l = none) : cur init wr (also D j) n l = cur init wr D n l := by
  induction n with
  | zero => rfl
  | succ n ih =>
    simp only [cur, also, ih]
    by_cases hj : n = j
    · subst hj; rw [h]; simp
    · rw [if_neg hj]
theorem cur_same {D : Nat → Bool} {j n : Nat} {l : ι} {v : α} (h : wr j l = some v) (hjn : j < n) (h2 : ∀ k, j < k → k < n → D k = true → wr k l = none) : cur init wr (also D j) n l = v := by
  rw [cur_from (j := j + 1) hjn (fun k h1 h3 h4 => h2 k h1 h3 (by unfold also at h4; rw [if_neg (by omega)] at h4; exact h4))]
  simp only [cur, also, h, if_true]
end cur

/-! ### who waits for whom -/
def edges (o : Oper) : List Nat := (o.after.toList.filter fun e => Region.binds .any e).map (·.on)
/-- All that an operation waits for, as a number's bits. -/
def edgeMask (acc : List Nat) : List Nat → Nat
  | [] => 0
  | i :: r => Nat.lor (Nat.lor (2 ^ i) (acc.getD i 0)) (edgeMask acc r)
def masksGo (acc : List Nat) : List Oper → List Nat
  | [] => acc
  | o :: r => masksGo (acc ++ [edgeMask acc (edges o)]) r
def masks (ops : List Oper) : List Nat := masksGo [] ops
def waits (ops : List Oper) (j i : Nat) : Bool := Nat.testBit ((masks ops).getD j 0) i
def reads (ops : List Oper) (o : Oper) : List Nat :=
  (o.op.operands.toList.filterMap fun | .tmp t => some t | _ => none) ++ (match o.guard with | some (g, _) => (match ops[g]? with | some p => p.dst.toList | none => []) | none => [])
def disjB (a b : List Nat) : Bool := a.all fun i => !memB i b
/-- The slots of operations apart are apart; who waits, waits for one ahead. -/
def slotsB (ops : List Oper) : Bool :=
  let ms := masks ops
  (List.range ops.length).all fun j => match ops[j]? with
    | some o => (edges o).all (fun i => Nat.blt i j) && (List.range j).all fun i => match ops[i]? with
      | some p => (disjB p.dst.toList (o.dst.toList ++ reads ops o) && disjB o.dst.toList (reads ops p)) || Nat.testBit (ms.getD j 0) i
      | none => true
    | none => true
theorem disjB_spec {a b : List Nat} (h : disjB a b = true) : ∀ i, i ∈ a → i ∈ b → False := by
  intro i h1 h2
  have := List.all_eq_true.1 h i h1
  rw [memB_iff.2 h2] at this; cases this
theorem edgeMask_bit {acc : List Nat} {i : Nat} : ∀ {es : List Nat}, Nat.testBit (edgeMask acc es) i = true → ∃ k ∈ es, i = k ∨ Nat.testBit (acc.getD k 0) i = true
  | [], h => by simp [edgeMask] at h
  | e :: r, h => by
    have h1 : Nat.testBit ((2 ^ e ||| acc.getD e 0) ||| edgeMask acc r) i = true := h
    rw [Nat.testBit_or, Nat.testBit_or, Bool.or_eq_true, Bool.or_eq_true] at h1
    rcases h1 with (h1 | h1) | h1
    · refine ⟨e, List.mem_cons_self, .inl ?_⟩
      rw [Nat.testBit_two_pow] at h1
      exact (of_decide_eq_true h1).symm
    · exact ⟨e, List.mem_cons_self, .inr h1⟩
    · obtain ⟨k, hk, h2⟩ := edgeMask_bit h1
      exact ⟨k, List.mem_cons_of_mem _ hk, h2⟩
theorem masksGo_get : ∀ (l : List Oper) (acc : List Nat), (∀ i, i < acc.length → (masksGo acc l).getD i 0 = acc.getD i 0) ∧ ∀ m o, l[m]? = some o → ∃ acc', (∀ i, Nat.testBit (acc'.getD i 0) = Nat.testBit (acc'.getD i 0)) ∧ (∀ i, i < acc'.length → acc'.getD i 0 = (masksGo acc l).getD i 0) ∧ (∀ i, acc'.length ≤ i → acc'.getD i 0 = 0) ∧ (masksGo acc l).getD (acc.length + m) 0 = edgeMask acc' (edges o)
  | [], acc => ⟨fun i _ => rfl, by simp⟩
  | o :: r, acc => by
    obtain ⟨h1, h2⟩ := masksGo_get r (acc ++ [edgeMask acc (edges o)])
    have ext : ∀ i, i < acc.length → (acc ++ [edgeMask acc (edges o)]).getD i 0 = acc.getD i 0 := by
      intro i hi
      simp only [List.getD_eq_getElem?_getD]
      rw [List.getElem?_append_left hi]
    have low : ∀ i, i < acc.length → (masksGo acc (o :: r)).getD i 0 = acc.getD i 0 := by
      intro i hi
      show (masksGo (acc ++ [edgeMask acc (edges o)]) r).getD i 0 = _
      rw [h1 i (by simp; omega), ext i hi]
    refine ⟨low, fun m o' hm => ?_⟩
    cases m with
    | zero =>
      simp at hm; subst hm
      refine ⟨acc, fun _ => rfl, fun i hi => (low i hi).symm, fun i hi => by simp [List.getD_eq_getElem?_getD, List.getElem?_eq_none hi], ?_⟩
      show (masksGo (acc ++ [edgeMask acc (edges o)]) r).getD _ 0 = _
      rw [h1 _ (by simp)]
      simp [List.getD_eq_getElem?_getD]
    | succ m =>
      obtain ⟨acc', a1, a2, a3, a4⟩ := h2 m o' (by simpa using hm)
      refine ⟨acc', a1, a2, a3, ?_⟩
      rw [← a4]
      show (masksGo (acc ++ [edgeMask acc (edges o)]) r).getD _ 0 = _
      congr 1
      simp; omega
theorem masks_get {ops : List Oper} {j : Nat} {o : Oper} (h : ops[j]? = some o) : ∃ acc, (∀ i, acc.getD i 0 = (masks ops).getD i 0 ∨ acc.getD i 0 = 0) ∧ (masks ops).getD j 0 = edgeMask acc (edges o) := by
  obtain ⟨acc', _, a2, a3, a4⟩ := (masksGo_get ops []).2 j o h
  refine ⟨acc', fun i => ?_, by simpa [masks] using a4⟩
  rcases Nat.lt_or_ge i acc'.length with h1 | h1
  · exact .inl (a2 i h1)
  · exact .inr (a3 i h1)
theorem anc_closed {ops : List Oper} {D : Nat → Bool} (hD : ∀ j o, ops[j]? = some o → D j = true → ∀ i ∈ edges o, D i = true) (hB : ∀ j o, ops[j]? = some o → ∀ i ∈ edges o, i < j) : ∀ (j : Nat) (o : Oper), ops[j]? = some o → (∀ i ∈ edges o, D i = true) → ∀ i, waits ops j i = true → D i = true := by
  intro j
  induction j using Nat.strongRecOn with
  | _ j ih =>
    intro o ho he i hi
    obtain ⟨acc, a1, a2⟩ := masks_get ho
    unfold waits at hi
    rw [a2] at hi
    obtain ⟨k, hk, h⟩ := edgeMask_bit hi
    rcases h with rfl | h
    · exact he _ hk
    · have hkj := hB j o ho k hk
      have hok : ops[k]? = some (ops[k]'(by have := (List.getElem?_eq_some_iff.1 ho).1; omega)) := List.getElem?_eq_getElem _
      rcases a1 k with h1 | h1
      · rw [h1] at h
        exact ih k hkj _ hok (hD k _ hok (he k hk)) i h
      · rw [h1] at h; simp at h
end Go.Proofs.YtblnfodnkacbbaaGreatDoor.Q

namespace Go.Proofs.YtblnfodnkacbbaaGreatDoor.Q
open Go.MapKept
variable [Amb]
section
variable {P : Program} {tt : TT} {o : Oper} {ρ : Env} {H : List Ob} {K : Eff → Prop}
def insK (k : Int) : List Int → List Int
  | [] => [k]
  | x :: r => if k < x then k :: x :: r else x :: insK k r
/-- A set, and one more. -/
def addI (k : Int) (xs : List Int) : List Int := if k ∈ xs then xs else insK k xs
theorem insK_perm (k : Int) : ∀ xs, (insK k xs).Perm (k :: xs)
  | [] => List.Perm.refl _
  | x :: r => by
    unfold insK
    split
    · exact List.Perm.refl _
    · exact ((insK_perm k r).cons x).trans (List.Perm.swap k x r)
theorem setEs_len {l : List Int} {bs : List Nat} (h : l.length = bs.length) : (setEs l bs).length = l.length := by simp [setEs, h]
theorem setEs_get {l : List Int} {bs : List Nat} {j : Nat} {k : Int} {n : Nat} (h1 : l[j]? = some k) (h2 : bs[j]? = some n) : (setEs l bs)[j]? = some { key := .int .i64 k, val := .bool true, born := n } := by
  simp [setEs, List.getElem?_zipWith, h1, h2]
theorem find_set (d : TypeDesc) (hd : mkK d = .int .i64) (k : Int) : ∀ (l : List Int) (bs : List Nat) (i : Nat), l.length = bs.length →
    (k ∉ l → Instr.findNow d (.int .i64 k) (setEs l bs) i = some none) ∧ (k ∈ l → ∃ j, l[j]? = some k ∧ Instr.findNow d (.int .i64 k) (setEs l bs) i = some (some (i + j, .bool true)))
  | [], bs, i, h => ⟨fun _ => rfl, fun h => by cases h⟩
  | x :: l, [], i, h => by simp at h
  | x :: l, b :: bs, i, h => by
    have hd' := mkK_int hd
    subst hd'
    have e : Instr.findNow (.int .i64) (.int .i64 k) (setEs (x :: l) (b :: bs)) i = (match (some (k == x) : Option Bool) with
      | some true => some (some (i, .bool true))
      | some false => Instr.findNow (.int .i64) (.int .i64 k) (setEs l bs) (i + 1)
      | none => none) := by
      show Instr.findNow _ _ ({ key := .int .i64 x, val := .bool true, born := b } :: setEs l bs) i = _
      cases hb : (k == x) <;> simp [Instr.findNow, Instr.sameNow, hb]
    rw [e]
    obtain ⟨h1, h2⟩ := find_set (.int .i64) rfl k l bs (i + 1) (by simpa using h)
    by_cases hk : k = x
    · subst hk
      simp only [beq_self_eq_true]
      exact ⟨fun hn => absurd List.mem_cons_self hn, fun _ => ⟨0, rfl, rfl⟩⟩
    · have hb : (k == x) = false := by simpa using hk
      rw [hb]
      refine ⟨fun hn => h1 fun hm => hn (List.mem_cons_of_mem _ hm), fun hm => ?_⟩
      obtain ⟨j, g1, g2⟩ := h2 (by simpa [hk] using hm)
      exact ⟨j + 1, by simpa using g1, by rw [show i + (j + 1) = i + 1 + j by omega]; exact g2⟩
theorem SetAt.push {es : Array MapEntry} {clk : Nat} {l : List Int} {bs : List Nat} (h : SetAt es clk l bs) {k : Int} (hk : k ∉ l) : SetAt (es.push { key := .int .i64 k, val := .bool true, born := clk }) (clk + 1) (l ++ [k]) (bs ++ [clk]) where
  es := by
    rw [Array.toList_push, h.es]
    unfold setEs
    rw [List.zipWith_append h.len]
    rfl
  len := by simp [h.len]
  nd := List.nodup_append.2 ⟨h.nd, by simp, fun a ha b hb => by simp at hb; subst hb; exact fun e => hk (e ▸ ha)⟩
  bnd := List.nodup_append.2 ⟨h.bnd, by simp, fun a ha b hb => by simp at hb; subst hb; have := h.lt a ha; omega⟩
  lt := fun n hn => by
    rcases List.mem_append.1 hn with hn | hn
    · have := h.lt n hn; omega
    · simp at hn; omega
theorem addI_perm {k : Int} {l xs : List Int} (h : l.Perm xs) : (if k ∈ l then l else l ++ [k]).Perm (addI k xs) := by
  unfold addI
  by_cases hk : k ∈ l
  · rw [if_pos hk, if_pos (h.mem_iff.1 hk)]; exact h
  · rw [if_neg hk, if_neg fun hm => hk (h.mem_iff.2 hm)]
    exact (List.perm_append_singleton k l).trans ((h.cons k).trans (insK_perm k xs).symm)
/-! ### one more -/
def pSetUp (tt : TT) (t : TypeId) (id : Nat) (xs : List Int) (Y Z : V) (K : Eff → Prop) : Prop := match tt t, Y, Z with
  | some e, .d (.int .i64 n), .d (.bool true) => match e.kind with
    | .map kt _ => match tt kt with
      | some ke => match ke.kind with
        | .int .i64 => K ⟨.undef, [], [(id, .iset (addI n xs))], []⟩
        | _ => False
      | none => False
    | _ => False
  | _, _, _ => False
theorem pSetUp_sem (htt : TTok P tt) {t : TypeId} {x y z : Operand} {id : Nat} {xs : List Int} {Y Z : V} (ho : o.op = .mapUpdate t x y z ∨ o.op = .insert t x y z) (hx : ev ρ x = some (.map id)) (hH : H[id]? = some (.iset xs)) (hy : ev ρ y = some Y) (hz : ev ρ z = some Z) (h : pSetUp tt t id xs Y Z K) : ∃ e, K e ∧ Tri P o ρ H e := by
  have hox : x ∈ o.op.operands := by rcases ho with ho | ho <;> (rw [ho]; simp [Op.operands])
  have hoy : y ∈ o.op.operands := by rcases ho with ho | ho <;> (rw [ho]; simp [Op.operands])
  have hoz : z ∈ o.op.operands := by rcases ho with ho | ho <;> (rw [ho]; simp [Op.operands])
  have hid := lt_of_get hH
  unfold pSetUp at h
  split at h
  · rename_i e n he
    obtain ⟨i, d, h1, h2, _, _, h3, _⟩ := tt_get htt he
    split at h
    · rename_i kt et hk
      rw [hk] at h3
      rw [mkK_map h3] at h2
      split at h
      · rename_i ke hke
        obtain ⟨ik, dk, k1, k2, _, _, k3, _⟩ := tt_get htt hke
        split at h
        · rename_i hkk
          rw [hkk] at k3
          have hik : IsKey dk (.int .i64 n) := by rw [mkK_int k3]; simp [IsKey]
          refine ⟨_, h, ⟨by simp, by simpa using hid, fun a G w φ Hx K Q hs hr' ha hf hK => ?_⟩⟩
          obtain ⟨bk, c, g1, g2⟩ := hr' x _ hox hx
          have ey : a.eval y = .int .i64 n := hr' y _ hoy hy
          have ez : a.eval z = .bool true := hr' z _ hoz hz
          have hHx : Hx id = some (.iset xs) := (ha id (.inr ⟨_, List.mem_singleton.2 rfl, rfl⟩)).trans hH
          obtain ⟨b', c', es, clk, l, bs, q1, q2, q3, q4, q5⟩ := hs.holds id _ hHx
          rw [g1] at q1; injection q1 with q1; injection q1 with q1 q1'; injection q1 with q1; injection q1 with q1; subst q1
          have hlt : bk < w.heap.size := (Array.getElem?_eq_some_iff.1 q2).1
          have key : ∃ es' clk' l' bs', (Instr.mapUpdate t (.map (some bk)) (.int .i64 n) (.bool true)).run P w = .ok () (w.putObj bk (.map es' clk')) ∧ SetAt es' clk' l' bs' ∧ l'.Perm (addI n xs) := by
            have hp := addI_perm (k := n) q4
            obtain ⟨f1, f2⟩ := find_set dk k3 n l bs 0 q3.len
            rw [← q3.es] at f1 f2
            by_cases hm : n ∈ l
            · rw [if_pos hm] at hp
              obtain ⟨j, g3, g4⟩ := f2 hm
              rw [Nat.zero_add] at g4
              have hjb : j < bs.length := by rw [← q3.len]; exact lt_of_get g3
              have g5 : es.toList[j]? = some { key := .int .i64 n, val := .bool true, born := bs[j] } := by rw [q3.es]; exact setEs_get g3 (List.getElem?_eq_getElem hjb)
              have g6 : es[j]? = some { key := .int .i64 n, val := .bool true, born := bs[j] } := by simpa using g5
              refine ⟨es.modify j fun e => { e with key := .int .i64 n, val := .bool true }, clk, l, bs, ?_, ?_, hp⟩
              · simp [Instr.mapUpdate, run_underlying h2, MapKept.run_getObj_map q2, run_checkKey k2 hik, run_findKey k2 g4, g6, run_keyThatStays hik, MapKept.run_setObj_map _ q2, Result.andThen, World.putObj]
              · have hes : (es.modify j fun e => { e with key := .int .i64 n, val := .bool true }).toList = es.toList := by
                  rw [Array.toList_modify]
                  refine List.ext_getElem? fun m => ?_
                  rw [List.getElem?_modify]
                  by_cases hjm : j = m
                  · subst hjm; rw [g5]; simp
                  · cases es.toList[m]? with
                    | none => rfl
                    | some q => show some (if j = m then _ else q) = _; rw [if_neg hjm]
                exact ⟨by rw [hes]; exact q3.es, q3.len, q3.nd, q3.bnd, q3.lt⟩
            · rw [if_neg hm] at hp
              refine ⟨_, _, _, _, ?_, q3.push hm, hp⟩
              simp [Instr.mapUpdate, run_underlying h2, MapKept.run_getObj_map q2, run_checkKey k2 hik, run_findKey k2 (f1 hm), MapKept.run_setObj_map _ q2, Result.andThen, World.putObj]
          obtain ⟨es', clk', l', bs', u1, u2, u3⟩ := key
          have hw := hs.mapWrite id bk _ (.iset (addI n xs)) es clk (.map es' clk') q2 q5 hHx (by simp [Owns, own, g1]) ⟨bk, c, es', clk', l', bs', g1, World.putObj_heap_same hlt, u2, u3, q5⟩ (fun b' hb' => by simp [Owns, own, g1] at hb'; exact hb'.symm)
          rw [upd_one] at hK
          unfold Oper.wp
          have run : (execOp a.eval o).run P w = .ok .skip (w.putObj bk (.map es' clk')) := by
            unfold execOp
            rcases ho with ho | ho <;> (rw [ho]; simp only [Sem.run_bind, g2, ey, ez, u1, Result.andThen_ok, Sem.run_pure])
          rw [run, Oper.upon_skip]
          exact hK undef _ _ _ hw.1 hw.2 trivial
        · exact h.elim
      · exact h.elim
    · exact h.elim
  · exact h.elim
/-! ### a new one -/
def isSetT (tt : TT) (t : TypeId) : Bool := match tt t with
  | some e => match e.kind with
    | .map kt et => match tt kt, tt et with
      | some ke, some ee => match ke.kind, ee.kind with
        | .int .i64, .bool => true
        | _, _ => false
      | _, _ => false
    | _ => false
  | none => false
theorem pMkSet_sem (htt : TTok P tt) {t : TypeId} (ho : o.op = .makeMap t none) (h : K ⟨.map H.length, [], [], [.iset []]⟩) : ∃ e, K e ∧ Tri P o ρ H e := by
  refine ⟨_, h, ⟨by simp, by simp, fun a G w φ Hx K Q hs hr ha hf hK => ?_⟩⟩
  have hn : Hx H.length = none := hf _ (Nat.le_refl _) (by simp)
  have run : (execOp a.eval o).run P w = .ok (.value (.map (some w.heap.size))) (w.alloc (.map #[] 0)) := by
    unfold execOp
    rw [ho]
    simp [Instr.makeMap]
  have hst := hs.add H.length 0 0 (.iset []) (.map #[] 0) hn
    ⟨w.heap.size, 0, #[], 0, [], [], setLoc_same _ _ _ _, heap_new w _, ⟨rfl, rfl, List.nodup_nil, List.nodup_nil, by simp⟩, List.Perm.refl _, hs.inv.fresh (Nat.le_refl _)⟩
    (fun b hb => by simp [Owns, own, setLoc_same] at hb; exact hb.symm)
  rw [upd_new] at hK
  unfold Oper.wp
  rw [run, Oper.upon_value]
  exact hK _ _ _ _ hst.1 hst.2 ⟨w.heap.size, 0, setLoc_same _ _ _ _, rfl⟩
/-! ### whether a number is there -/
def pLookS (tt : TT) (t : TypeId) (xs : List Int) (Y : V) (ok : Bool) (K : Eff → Prop) : Prop := match tt t, Y, ok with
  | some e, .d (.int .i64 n), false => match e.kind with
    | .map kt et => match tt kt, tt et with
      | some ke, some ee => match ke.kind, ee.zero with
        | .int .i64, some (.d (.bool false)) => kv K (.d (.bool (decide (n ∈ xs))))
        | _, _ => False
      | _, _ => False
    | _ => False
  | _, _, _ => False
theorem pLookS_sem (htt : TTok P tt) {t : TypeId} {x y : Operand} {xs : List Int} {Y : V} {ok : Bool} (ho : o.op = .lookup t x y ok) (hx : ev ρ x = some (.d (.set xs))) (hy : ev ρ y = some Y) (h : pLookS tt t xs Y ok K) : ∃ e, K e ∧ Tri P o ρ H e := by
  have hox : x ∈ o.op.operands := by rw [ho]; simp [Op.operands]
  have hoy : y ∈ o.op.operands := by rw [ho]; simp [Op.operands]
  unfold pLookS at h
  split at h
  · rename_i e n he
    obtain ⟨i, d, h1, h2, _, _, h3, _⟩ := tt_get htt he
    split at h
    · rename_i kt et hk
      rw [hk] at h3
      rw [mkK_map h3] at h2
      split at h
      · rename_i ke ee hke hee
        obtain ⟨ik, dk, k1, k2, _, _, k3, _⟩ := tt_get htt hke
        split at h
        · rename_i hkk hz
          rw [hkk] at k3
          have hik : IsKey dk (.int .i64 n) := by rw [mkK_int k3]; simp [IsKey]
          refine kv_sem h fun a G w φ hi hr => ⟨_, ?_, rfl⟩
          have ey : a.eval y = .int .i64 n := hr y _ hoy hy
          obtain ⟨v, v1, v2, _⟩ := run_zero (P := P) w htt hee hz
          have hv : v = .bool false := v2 G φ
          subst hv
          rcases set_rep hi (hr x _ hox hx) with ⟨e1, e2⟩ | ⟨b, es, clk, l, bs, e1, _, e2, e3, e4⟩
          · subst e2
            unfold execOp
            rw [ho]
            have hf : Instr.findNow dk (.int .i64 n) [] 0 = some none := rfl
            simp [Instr.lookup, e1, ey, run_underlying h2, run_checkKey k2 hik, run_findKey k2 hf, v1, Result.andThen]
          · obtain ⟨f1, f2⟩ := find_set dk k3 n l bs 0 e3.len
            rw [← e3.es] at f1 f2
            unfold execOp
            rw [ho]
            by_cases hm : n ∈ l
            · obtain ⟨j, g3, g4⟩ := f2 hm
              have hd : decide (n ∈ xs) = true := decide_eq_true (e4.mem_iff.1 hm)
              simp only [Sem.run_bind, e1, ey, run_look h2 k2 e2 hik g4 false (.bool false) (fun hh => by cases hh), Result.andThen_ok, Sem.run_pure, hd]
              rfl
            · have hd : decide (n ∈ xs) = false := decide_eq_false fun hx => hm (e4.mem_iff.2 hx)
              simp only [Sem.run_bind, e1, ey, run_look h2 k2 e2 hik (f1 hm) false (.bool false) (fun _ => v1), Result.andThen_ok, Sem.run_pure, hd]
              rfl
        · exact h.elim
      · exact h.elim
    · exact h.elim
  · exact h.elim
/-- Asked of a set that is being built. -/
def pLookIS (tt : TT) (t : TypeId) (X Y : V) (ok : Bool) (H : List Ob) (K : Eff → Prop) : Prop := match tt t, X, Y, ok with
  | some e, .map id, .d (.int .i64 n), false => match e.kind, H[id]? with
    | .map kt et, some (.iset xs) => match tt kt, tt et with
      | some ke, some ee => match ke.kind, ee.zero with
        | .int .i64, some (.d (.bool false)) => K ⟨.d (.bool (decide (n ∈ xs))), [id], [], []⟩
        | _, _ => False
      | _, _ => False
    | _, _ => False
  | _, _, _, _ => False
theorem pLookIS_sem (htt : TTok P tt) {t : TypeId} {x y : Operand} {X Y : V} {ok : Bool} (ho : o.op = .lookup t x y ok) (hx : ev ρ x = some X) (hy : ev ρ y = some Y) (h : pLookIS tt t X Y ok H K) : ∃ e, K e ∧ Tri P o ρ H e := by
  have hox : x ∈ o.op.operands := by rw [ho]; simp [Op.operands]
  have hoy : y ∈ o.op.operands := by rw [ho]; simp [Op.operands]
  unfold pLookIS at h
  split at h
  · rename_i e id n he
    obtain ⟨i, d, h1, h2, _, _, h3, _⟩ := tt_get htt he
    split at h
    · rename_i kt et xs hk hH
      rw [hk] at h3
      rw [mkK_map h3] at h2
      split at h
      · rename_i ke ee hke hee
        obtain ⟨ik, dk, k1, k2, _, _, k3, _⟩ := tt_get htt hke
        split at h
        · rename_i hkk hz
          rw [hkk] at k3
          have hik : IsKey dk (.int .i64 n) := by rw [mkK_int k3]; simp [IsKey]
          have hid := lt_of_get hH
          refine ⟨_, h, tri_val (by simpa using hid) fun a G w φ Hx hs hr ha => ⟨_, ?_, rfl⟩⟩
          have ey : a.eval y = .int .i64 n := hr y _ hoy hy
          obtain ⟨bk, c, g1, e1⟩ := hr x _ hox hx
          obtain ⟨b', c', es, clk, l, bs, q1, e2, e3, e4, q5⟩ := hs.holds id _ ((ha id (by simp)).trans hH)
          rw [g1] at q1; injection q1 with q1; injection q1 with q1 q1'; injection q1 with q1; injection q1 with q1; subst q1
          obtain ⟨v, v1, v2, _⟩ := run_zero (P := P) w htt hee hz
          have hv : v = .bool false := v2 G φ
          subst hv
          obtain ⟨f1, f2⟩ := find_set dk k3 n l bs 0 e3.len
          rw [← e3.es] at f1 f2
          unfold execOp
          rw [ho]
          by_cases hm : n ∈ l
          · obtain ⟨j, g3, g4⟩ := f2 hm
            have hd : decide (n ∈ xs) = true := decide_eq_true (e4.mem_iff.1 hm)
            simp only [Sem.run_bind, e1, ey, run_look h2 k2 e2 hik g4 false (.bool false) (fun hh => by cases hh), Result.andThen_ok, Sem.run_pure, hd]
            rfl
          · have hd : decide (n ∈ xs) = false := decide_eq_false fun hx => hm (e4.mem_iff.2 hx)
            simp only [Sem.run_bind, e1, ey, run_look h2 k2 e2 hik (f1 hm) false (.bool false) (fun _ => v1), Result.andThen_ok, Sem.run_pure, hd]
            rfl
        · exact h.elim
      · exact h.elim
    · exact h.elim
  · exact h.elim
/-! ### going through -/
def pRangeS (tt : TT) (t : TypeId) (xs : List Int) (H : List Ob) (K : Eff → Prop) : Prop := match tt t with
  | some e => match e.kind with
    | .map _ _ => K ⟨.ptr H.length 0, [], [], [.iter xs []]⟩
    | _ => False
  | none => False
theorem pRangeS_sem (htt : TTok P tt) {t : TypeId} {x : Operand} {xs : List Int} (ho : o.op = .range t x) (hx : ev ρ x = some (.d (.set xs))) (h : pRangeS tt t xs H K) : ∃ e, K e ∧ Tri P o ρ H e := by
  have hox : x ∈ o.op.operands := by rw [ho]; simp [Op.operands]
  unfold pRangeS at h
  split at h
  · rename_i e he
    obtain ⟨i, d, h1, h2, _, _, h3, _⟩ := tt_get htt he
    split at h
    · rename_i kt et hk
      rw [hk] at h3
      rw [mkK_map h3] at h2
      refine ⟨_, h, ⟨by simp, by simp, fun a G w φ Hx K Q hs hr ha hf hK => ?_⟩⟩
      have hn : Hx H.length = none := hf _ (Nat.le_refl _) (by simp)
      have fin : ∀ ob : Obj, (Instr.range t (a.eval x)).run P w = .ok (.pointer (some ⟨w.heap.size, 0, none⟩)) (w.alloc ob) → Holds G (w.alloc ob) (setLoc φ H.length 0 (some (w.heap.size, 0), 0)) H.length (.iter xs []) → o.wp P a w K Q := by
        intro ob h4 h5
        have hst := hs.add H.length 0 0 (.iter xs []) ob hn h5 (fun b hb => by simp [Owns, own, setLoc_same] at hb; exact hb.symm)
        rw [upd_new] at hK
        unfold Oper.wp
        have run : (execOp a.eval o).run P w = .ok (.value (.pointer (some ⟨w.heap.size, 0, none⟩))) (w.alloc ob) := by
          unfold execOp
          rw [ho]
          simp only [Sem.run_bind, h4, Result.andThen_ok, Sem.run_pure]
        rw [run, Oper.upon_value]
        exact hK _ _ _ _ hst.1 hst.2 ⟨w.heap.size, 0, setLoc_same _ _ _ _, rfl⟩
      rcases set_rep hs.inv (hr x _ hox hx) with ⟨e1, e2⟩ | ⟨b, es, clk, l, bs, e1, e0, e2, e3, e4⟩
      · subst e2
        refine fin _ (by rw [e1]; exact run_range_nilMap w t kt et h2) ⟨w.heap.size, 0, setLoc_same _ _ _ _, hs.inv.fresh (Nat.le_refl _), .inl ⟨rfl, rfl, 0, #[], 0, heap_new w _⟩⟩
      · refine fin _ (by rw [e1]; exact run_range_map w t kt et b es clk h2 e2) ⟨w.heap.size, 0, setLoc_same _ _ _ _, hs.inv.fresh (Nat.le_refl _), .inr ⟨b, l, bs, clk, #[], heap_new w _, e0, e4, rfl, fun i k n hi => by simp at hi⟩⟩
    · exact h.elim
  · exact h.elim
theorem Sit.objWrite {G : Imm} {w : World} {φ : Loc} {Hx : Hp} (hs : Sit G w φ Hx) (id b : Nat) (ob ob' : Ob) (o' : Obj) (hb0 : ∀ cs T fr, w.heap[b]? ≠ some (.cells cs T fr)) (hG : ∀ o, G b o = none) (hH : Hx id = some ob) (hb : Owns φ id ob b)
    (hh : Holds G (w.putObj b o') φ id ob') (ho : ∀ b', Owns φ id ob' b' → b' = b) :
    Sit G (w.putObj b o') φ (fun i => if i = id then some ob' else Hx i) ∧ Goes G w φ Hx G (w.putObj b o') φ (fun i => if i = id then some ob' else Hx i) := by
  refine hs.step (fun i => i = id) (Imm.le.refl _) (Loc.le.refl _) (fun _ _ _ => rfl) rfl rfl rfl (by rw [World.putObj_size]; exact Nat.le_refl _) ?_ (fun i hi => if_neg hi) ?_ ?_ ?_ ?_ ?_
  · intro k hk hn
    refine ⟨World.putObj_heap_other ?_, fun _ => rfl⟩
    rintro rfl
    exact hn id ob rfl hH hb
  · refine InvT.of hs.inv (Imm.le.refl _) (fun b' cs T fr hb' _ _ => ?_) fun b' o v hg => ?_
    · refine World.putObj_heap_other fun e => ?_
      subst e; exact hb0 cs T fr hb'
    have hne : b' ≠ b := fun e => by rw [e, hG] at hg; cases hg
    refine (hs.inv.1 b' o v hg).go (Imm.le.refl _) (fun h1 => ?_) fun _ => World.putObj_heap_other hne
    simp only [World.cell?] at h1 ⊢
    rw [World.putObj_heap_other hne]
    exact h1
  · intro i ob1 hi h1; subst hi; simp at h1; subst h1; exact hh
  · intro i j ob1 ob2 b hi hj hij; exact absurd (hi.trans hj.symm) hij
  · intro i ob1 b1 hi h1 h2
    subst hi; simp at h1; subst h1
    have e := ho b1 h2
    subst e
    exact .inl ⟨i, ob, rfl, hH, hb⟩
  · intro i hi h1; subst hi; simp at h1
/-! ### the number that was met last -/
def pEntryS (X : V) (H : List Ob) (K : Eff → Prop) : Prop := match X with
  | .ptr id 0 => match H[id]? with
    | some (.iter xs (k :: seen)) => K ⟨.tup [.d (.int .i64 k), .d (.bool true)], [id], [], []⟩
    | _ => False
  | _ => False
theorem iter_get {l : List Int} {bs : List Nat} {sa : Array Nat} {seen : List Int} (h1 : sa.toList.length = seen.length) (h2 : ∀ (i : Nat) (k : Int) (n : Nat), seen[i]? = some k → sa.toList.reverse[i]? = some n → ∃ p : Nat, l[p]? = some k ∧ bs[p]? = some n) :
    (∀ n, n ∈ sa.toList → ∃ (p : Nat) (k : Int), k ∈ seen ∧ l[p]? = some k ∧ bs[p]? = some n) ∧ (∀ k, k ∈ seen → ∃ (p n : Nat), n ∈ sa.toList ∧ l[p]? = some k ∧ bs[p]? = some n) := by
  refine ⟨fun n hn => ?_, fun k hk => ?_⟩
  · obtain ⟨i, hi⟩ := List.getElem?_of_mem (List.mem_reverse.2 hn)
    have hlt : i < seen.length := by have := lt_of_get hi; rw [List.length_reverse] at this; omega
    obtain ⟨p, p1, p2⟩ := h2 i _ n (List.getElem?_eq_getElem hlt) hi
    exact ⟨p, _, List.getElem_mem hlt, p1, p2⟩
  · obtain ⟨i, hi⟩ := List.getElem?_of_mem hk
    have hlt : i < sa.toList.reverse.length := by have := lt_of_get hi; rw [List.length_reverse]; omega
    obtain ⟨p, p1, p2⟩ := h2 i k _ hi (List.getElem?_eq_getElem hlt)
    exact ⟨p, _, List.mem_reverse.1 (List.getElem_mem hlt), p1, p2⟩
theorem nodup_at {α : Type} {l : List α} (h : l.Nodup) {i j : Nat} {x : α} (hi : l[i]? = some x) (hj : l[j]? = some x) : i = j := by
  exact (List.getElem?_inj (lt_of_get hi) h).1 (hi.trans hj.symm)
theorem iter_map {G : Imm} {w : World} (hi : Inv G w) {bm : Nat} {l : List Int} {bs : List Nat} {clk : Nat} {xs : List Int} (hG : G bm 0 = some (setMark l bs clk)) (hp : l.Perm xs) : ∃ es : Array MapEntry, w.heap[bm]? = some (.map es clk) ∧ SetAt es clk l bs := by
  have h : (D.set xs).rep G (.map (some bm)) := .inr ⟨bm, l, bs, clk, rfl, hp, hG⟩
  rcases set_rep hi h with ⟨e, _⟩ | ⟨b, es, clk', l', bs', e1, e2, e3, e4, _⟩
  · cases e
  · injection e1 with e1; injection e1 with e1; subst e1
    rw [hG] at e2; injection e2 with e2
    obtain ⟨rfl, rfl, rfl⟩ := setMark_inj e2
    exact ⟨es, e3, e4⟩
theorem SetAt.born {es : Array MapEntry} {clk : Nat} {l : List Int} {bs : List Nat} (h : SetAt es clk l bs) : es.toList.map (·.born) = bs := by
  have := h.len
  rw [h.es]
  unfold setEs
  refine List.ext_getElem? fun m => ?_
  rw [List.getElem?_map, List.getElem?_zipWith]
  cases hb : bs[m]? with
  | none => cases l[m]? <;> rfl
  | some n =>
    have hm := lt_of_get hb
    rw [List.getElem?_eq_getElem (by omega : m < l.length)]
    rfl
theorem SetAt.get {es : Array MapEntry} {clk : Nat} {l : List Int} {bs : List Nat} (h : SetAt es clk l bs) {e : MapEntry} (he : e ∈ es.toList) : ∃ (p : Nat) (k : Int), l[p]? = some k ∧ bs[p]? = some e.born ∧ e.key = .int .i64 k ∧ e.val = .bool true := by
  rw [h.es] at he
  obtain ⟨p, hp⟩ := List.getElem?_of_mem he
  unfold setEs at hp
  rw [List.getElem?_zipWith] at hp
  cases hl : l[p]? with
  | none => rw [hl] at hp; simp at hp
  | some k =>
    cases hb : bs[p]? with
    | none => rw [hl, hb] at hp; simp at hp
    | some n =>
      rw [hl, hb] at hp
      simp at hp
      subst hp
      exact ⟨p, k, hl, hb, rfl, rfl⟩
theorem pEntryS_sem {x : Operand} {X : V} (ho : o.op = .entry x) (hx : ev ρ x = some X) (h : pEntryS X H K) : ∃ e, K e ∧ Tri P o ρ H e := by
  have hox : x ∈ o.op.operands := by rw [ho]; simp [Op.operands]
  unfold pEntryS at h
  split at h
  · rename_i id
    split at h
    · rename_i xs k seen hH
      have hid := lt_of_get hH
      refine ⟨_, h, tri_val (by simpa using hid) fun a G w φ Hx hs hr ha => ?_⟩
      obtain ⟨b, c, g1, g2⟩ := hr x _ hox hx
      obtain ⟨b', c', q1, q2, q3⟩ := hs.holds id _ ((ha id (by simp)).trans hH)
      rw [g1] at q1; injection q1 with q1; injection q1 with q1 q1'; injection q1 with q1; injection q1 with q1; subst q1
      rcases q3 with ⟨_, e, _⟩ | ⟨bm, l, bs, clk, sa, e1, e2, e3, e4, e5⟩
      · cases e
      · obtain ⟨es, f1, f2⟩ := iter_map hs.inv e2 e3
        have hne : sa.toList.reverse ≠ [] := fun he => by
          have := congrArg List.length he
          rw [List.length_reverse, e4] at this
          simp at this
        obtain ⟨n, r, hr'⟩ := List.exists_cons_of_ne_nil hne
        obtain ⟨p, p1, p2⟩ := e5 0 k n rfl (by rw [hr']; rfl)
        have hsa : sa = (r.reverse.toArray).push n := by
          apply Array.toList_inj.1
          rw [Array.toList_push]
          have := congrArg List.reverse hr'
          rw [List.reverse_reverse] at this
          rw [this]; simp
        have he : es.toList[p]? = some { key := .int .i64 k, val := .bool true, born := n } := by rw [f2.es]; exact setEs_get p1 p2
        have hrun := run_entry_at (P := P) w b bm clk r.reverse.toArray es clk { key := .int .i64 k, val := .bool true, born := n } (by rw [e1, hsa]) f1 (List.mem_of_getElem? he) (by rw [f2.born]; exact f2.bnd)
        refine ⟨_, ?_, ⟨[.int .i64 k, .bool true], rfl, ⟨_, _, rfl, rfl, _, _, rfl, rfl, rfl⟩⟩⟩
        unfold execOp
        rw [ho]
        simp only [Sem.run_bind, g2, hrun, Result.andThen_ok, Sem.run_pure]
    · exact h.elim
  · exact h.elim
end
end Go.Proofs.YtblnfodnkacbbaaGreatDoor.Q

namespace Go.Proofs.YtblnfodnkacbbaaGreatDoor.Q
open Go.MapKept
variable [Amb]
section
variable {P : Program} {tt : TT} {o : Oper} {ρ : Env} {H : List Ob} {K : Eff → Prop}
theorem memoMark_inj {u u' : Value} (h : memoMark u = memoMark u') : u = u' := by
  unfold memoMark at h
  injection h with h
  have := congrArg Array.toList h
  simpa using this
theorem plain_at {G : Imm} {w : World} (hi : Inv G w) {b n : Nat} (h : G b n = some plainMark) : ∃ cs T, w.heap[b]? = some (.cells cs T (0, 0)) := by
  rcases hi.1 b n _ h with ⟨_, h4⟩ | ⟨_, es, clk', h4, ⟨l', bs', h5, h6⟩ | ⟨u', h5, h6, h7⟩⟩ | ⟨h5, cs, T, h6, _⟩
  · cases h4
  · unfold setMark plainMark at h5
    injection h5 with h5
    have := congrArg Array.size h5
    simp at this
  · unfold memoMark plainMark at h5
    injection h5 with h5
    have := congrArg Array.size h5
    simp at this
  · exact ⟨cs, T, h6⟩
/-- A remembering map is there. -/
theorem memo_rep {G : Imm} {w : World} (hi : Inv G w) {t : D} {v : Value} (h : (D.memo t).rep G v) :
    ∃ (b : Nat) (u : Value) (es : Array MapEntry) (clk : Nat), v = .map (some b) ∧ G b 0 = some (memoMark u) ∧ t.rep G u ∧ w.heap[b]? = some (.map es clk) ∧ (∀ e ∈ es.toList, e.born < clk) ∧ ∀ e ∈ es.toList, Amb.memo G u e.key e.val := by
  obtain ⟨b, u, h1, h2, h3⟩ := h
  rcases hi.1 b 0 _ h2 with ⟨_, h4⟩ | ⟨_, es, clk', h4, ⟨l', bs', h5, h6⟩ | ⟨u', h5, h6, h7⟩⟩ | ⟨h5, _⟩
  · cases h4
  · unfold setMark memoMark at h5
    injection h5 with h5
    have := congrArg Array.size h5
    simp at this
  · have := memoMark_inj h5
    subst this
    exact ⟨b, u, es, clk', h1, h2, h3, h4, h6, h7⟩
  · unfold memoMark plainMark at h5
    injection h5 with h5
    have := congrArg Array.size h5
    simp at this
/-- What a remembering map tells of a key. -/
def MLook (P : Program) (kt : TypeId) (mt : D) (Y : V) (x : D) : Prop := ∀ (G : Imm) (w : World) (φ : Loc) (u k : Value), Inv G w → mt.rep G u → Y.rep G φ k →
  (∀ em, (Instr.checkKey em 10000 kt k).run P w = .ok () w) ∧ ∀ k' v', Amb.memo G u k' v' → ∃ b, (Op.equal kt k k').run P w = .ok b w ∧ (b = true → x.rep G v')
/-- What it may be given to remember. -/
def MUp (P : Program) (kt : TypeId) (mt : D) (Y Z : V) : Prop := ∀ (G : Imm) (w : World) (φ : Loc) (u k z : Value), Inv G w → mt.rep G u → Y.rep G φ k → Z.rep G φ z →
  (∀ em, (Instr.checkKey em 10000 kt k).run P w = .ok () w) ∧ Instr.sameBits 10000 k k = true ∧ Amb.memo G u k z ∧ ∀ k' v', Amb.memo G u k' v' → ∃ b, (Op.equal kt k k').run P w = .ok b w ∧ (b = true → k' = k)
theorem run_ask (w : World) (kt : TypeId) (k : Value) : ∀ (es : List MapEntry) (i : Nat), (∀ e ∈ es, ∃ b, (Op.equal kt k e.key).run P w = .ok b w) →
    (Instr.findAsking kt k es i).run P w = .ok none w ∨ ∃ j e, (Instr.findAsking kt k es i).run P w = .ok (some (i + j, e.val)) w ∧ es[j]? = some e ∧ (Op.equal kt k e.key).run P w = .ok true w
  | [], i, _ => .inl (by simp [Instr.findAsking])
  | e :: es, i, h => by
    obtain ⟨b, hb⟩ := h e List.mem_cons_self
    cases b with
    | true => exact .inr ⟨0, e, by simp [Instr.findAsking, hb], rfl, hb⟩
    | false =>
      rcases run_ask w kt k es (i + 1) (fun y hy => h y (List.mem_cons_of_mem _ hy)) with h1 | ⟨j, e', h1, h2, h3⟩
      · exact .inl (by simp [Instr.findAsking, hb, h1])
      · exact .inr ⟨j + 1, e', by simp [Instr.findAsking, hb, h1, Nat.add_assoc, Nat.add_comm 1 j], by simpa using h2, h3⟩
theorem mkK_struct' {d : TypeDesc} {fs : List (Nat × TypeId)} (h : mkK d = .struct fs) : ∃ gs, d = .struct gs := by
  cases d <;> simp [mkK] at h
  exact ⟨_, rfl⟩
def pLookM (P : Program) (tt : TT) (t : TypeId) (mt : D) (Y : V) (ok : Bool) (H : List Ob) (K : Eff → Prop) : Prop := match tt t, ok with
  | some e, true => match e.kind with
    | .map kt et => match tt kt, tt et with
      | some ke, some ee => match ke.kind, ee.zero with
        | .struct _, some _ => ∃ x, MLook P kt mt Y x ∧ K ⟨.lookT H.length x, [], [], [.flag]⟩
        | _, _ => False
      | _, _ => False
    | _ => False
  | _, _ => False
/-- One more object that is nowhere. -/
theorem Sit.addFlag {G : Imm} {w : World} {φ : Loc} {Hx : Hp} (hs : Sit G w φ Hx) (base c : Nat) (hn : Hx base = none) :
    Sit G w (setLoc φ base 0 (none, c)) (fun i => if i = base then some .flag else Hx i) ∧ Goes G w φ Hx G w (setLoc φ base 0 (none, c)) (fun i => if i = base then some .flag else Hx i) := by
  refine hs.step (fun i => i = base) (Imm.le.refl _) (setLoc_le (hs.un base hn 0)) (fun i hi m => setLoc_ne hi) rfl rfl rfl (Nat.le_refl _) (fun b _ _ => ⟨rfl, fun _ => rfl⟩) (fun i hi => if_neg hi) hs.inv ?_ ?_ ?_ ?_
  · intro i ob' hi hH
    subst hi
    simp at hH; subst hH; exact ⟨c, setLoc_same _ _ _ _⟩
  · intro i j ob1 ob2 b hi hj hij
    exact absurd (hi.trans hj.symm) hij
  · intro i ob' b hi hH hb
    subst hi
    simp at hH; subst hH
    simp [Owns, own] at hb
  · intro i hi hH
    subst hi; simp at hH
theorem pLookM_sem (htt : TTok P tt) {t : TypeId} {x y : Operand} {mt : D} {Y : V} {ok : Bool} (ho : o.op = .lookup t x y ok) (hx : ev ρ x = some (.d (.memo mt))) (hy : ev ρ y = some Y) (h : pLookM P tt t mt Y ok H K) : ∃ e, K e ∧ Tri P o ρ H e := by
  have hox : x ∈ o.op.operands := by rw [ho]; simp [Op.operands]
  have hoy : y ∈ o.op.operands := by rw [ho]; simp [Op.operands]
  unfold pLookM at h
  split at h
  · rename_i e he
    obtain ⟨i, d, h1, h2, _, _, h3, _⟩ := tt_get htt he
    split at h
    · rename_i kt et hk
      rw [hk] at h3
      rw [mkK_map h3] at h2
      split at h
      · rename_i ke ee hke hee
        obtain ⟨ik, dk, k1, k2, _, _, k3, _⟩ := tt_get htt hke
        split at h
        · rename_i fs z hkk hz
          rw [hkk] at k3
          obtain ⟨gs, rfl⟩ := mkK_struct' k3
          obtain ⟨xr, hML, h⟩ := h
          refine ⟨_, h, ⟨by simp, by simp, fun a G w φ Hx K Q hs hr ha hf hK => ?_⟩⟩
          have hn : Hx H.length = none := hf _ (Nat.le_refl _) (by simp)
          obtain ⟨b, u, es, clk, e1, e2, e3, e4, e5, e6⟩ := memo_rep hs.inv (hr x _ hox hx)
          obtain ⟨m1, m2⟩ := hML G w φ u (a.eval y) hs.inv e3 (hr y _ hoy hy)
          obtain ⟨zv, v1, v2, _⟩ := run_zero (P := P) w htt hee hz
          have fin : ∀ (c : Nat) (s : Value), (c = 1 → xr.rep G s) → (Instr.lookup t (a.eval x) (a.eval y) true).run P w = .ok (.tuple #[s, .bool (Nat.beq c 1)]) w → o.wp P a w K Q := by
            intro c s hc hrun
            obtain ⟨s1, s2⟩ := hs.addFlag H.length c hn
            rw [upd_new] at hK
            unfold Oper.wp
            have run : (execOp a.eval o).run P w = .ok (.value (.tuple #[s, .bool (Nat.beq c 1)])) w := by
              unfold execOp
              rw [ho]
              simp only [Sem.run_bind, hrun, Result.andThen_ok, Sem.run_pure]
            rw [run, Oper.upon_value]
            exact hK _ _ _ _ s1 s2 ⟨c, s, setLoc_same _ _ _ _, rfl, hc⟩
          have hfk := run_findKey_eq (P := P) w (k := kt) (by rw [k2]) (a.eval y) es.toList
          rcases run_ask (P := P) w kt (a.eval y) es.toList 0 (fun e he => by obtain ⟨b, hb, _⟩ := m2 e.key e.val (e6 e he); exact ⟨b, hb⟩) with h4 | ⟨j, e', h4, h5, h6⟩
          · refine fin 0 zv (fun e => by cases e) ?_
            rw [e1]
            simp [Instr.lookup, run_underlying h2, MapKept.run_getObj_map e4, m1, hfk, h4, v1, Result.andThen]
            rfl
          · refine fin 1 e'.val (fun _ => ?_) ?_
            · obtain ⟨b, hb, hb2⟩ := m2 e'.key e'.val (e6 e' (List.mem_of_getElem? h5))
              rw [h6] at hb
              injection hb with hb
              exact hb2 hb.symm
            · rw [e1]
              simp [Instr.lookup, run_underlying h2, MapKept.run_getObj_map e4, m1, hfk, h4, Result.andThen]
        · exact h.elim
      · exact h.elim
    · exact h.elim
  · exact h.elim
def pUpM (P : Program) (tt : TT) (t : TypeId) (mt : D) (Y Z : V) (K : Eff → Prop) : Prop := match tt t with
  | some e => match e.kind with
    | .map kt _ => match tt kt with
      | some ke => match ke.kind with
        | .struct _ => MUp P kt mt Y Z ∧ K ⟨.undef, [], [], []⟩
        | _ => False
      | none => False
    | _ => False
  | none => False
/-- A remembering map has another content. -/
theorem Sit.memoWrite {G : Imm} {w : World} {φ : Loc} {Hx : Hp} (hs : Sit G w φ Hx) {b : Nat} {u : Value} {es es' : Array MapEntry} {clk clk' : Nat} (hg : G b 0 = some (memoMark u)) (hb : w.heap[b]? = some (.map es clk))
    (h1 : ∀ e ∈ es'.toList, e.born < clk') (h2 : ∀ e ∈ es'.toList, Amb.memo G u e.key e.val) :
    Sit G (w.putObj b (.map es' clk')) φ Hx ∧ Goes G w φ Hx G (w.putObj b (.map es' clk')) φ Hx := by
  have hlt : b < w.heap.size := (Array.getElem?_eq_some_iff.1 hb).1
  refine hs.stepM (fun _ => False) (Imm.le.refl _) (Loc.le.refl _) (fun _ _ _ => rfl) rfl rfl rfl (by rw [World.putObj_size]; exact Nat.le_refl _) ?_ (fun _ _ => rfl) ?_ (fun _ _ h => h.elim) (fun _ _ _ _ _ h => h.elim) (fun _ _ _ h => h.elim) (fun _ h => h.elim)
  · intro k hk _ hm
    refine ⟨World.putObj_heap_other ?_, fun _ => rfl⟩
    rintro rfl
    exact hm ⟨⟨u, hg⟩, es, clk, hb⟩
  · refine InvT.of hs.inv (Imm.le.refl _) (fun b' cs T fr hb' _ _ => ?_) fun b' o v hgo => ?_
    · refine World.putObj_heap_other fun e => ?_
      subst e; rw [hb] at hb'; cases hb'
    · by_cases hne : b' = b
      · subst hne
        rcases hs.inv.1 b' o v hgo with ⟨h3, _⟩ | ⟨h0, _⟩ | ⟨_, cs, T, h3, _⟩
        · rw [World.cell?, hb] at h3; cases h3
        · subst h0
          rw [hg] at hgo
          injection hgo with hgo
          subst hgo
          exact .inr (.inl ⟨rfl, es', clk', World.putObj_heap_same hlt, .inr ⟨u, rfl, h1, h2⟩⟩)
        · rw [hb] at h3; cases h3
      · refine (hs.inv.1 b' o v hgo).go (Imm.le.refl _) (fun h1 => ?_) fun _ => World.putObj_heap_other hne
        simp only [World.cell?] at h1 ⊢
        rw [World.putObj_heap_other hne]
        exact h1
theorem pUpM_sem (htt : TTok P tt) {t : TypeId} {x y z : Operand} {mt : D} {Y Z : V} (ho : o.op = .mapUpdate t x y z ∨ o.op = .insert t x y z) (hx : ev ρ x = some (.d (.memo mt))) (hy : ev ρ y = some Y) (hz : ev ρ z = some Z) (h : pUpM P tt t mt Y Z K) : ∃ e, K e ∧ Tri P o ρ H e := by
  have hox : x ∈ o.op.operands := by rcases ho with ho | ho <;> (rw [ho]; simp [Op.operands])
  have hoy : y ∈ o.op.operands := by rcases ho with ho | ho <;> (rw [ho]; simp [Op.operands])
  have hoz : z ∈ o.op.operands := by rcases ho with ho | ho <;> (rw [ho]; simp [Op.operands])
  unfold pUpM at h
  split at h
  · rename_i e he
    obtain ⟨i, d, h1, h2, _, _, h3, _⟩ := tt_get htt he
    split at h
    · rename_i kt et hk
      rw [hk] at h3
      rw [mkK_map h3] at h2
      split at h
      · rename_i ke hke
        obtain ⟨ik, dk, k1, k2, _, _, k3, _⟩ := tt_get htt hke
        split at h
        · rename_i fs hkk
          rw [hkk] at k3
          obtain ⟨gs, rfl⟩ := mkK_struct' k3
          obtain ⟨hMU, h⟩ := h
          refine ⟨_, h, ⟨by simp, by simp, fun a G w φ Hx K Q hs hr ha hf hK => ?_⟩⟩
          obtain ⟨b, u, es, clk, e1, e2, e3, e4, e5, e6⟩ := memo_rep hs.inv (hr x _ hox hx)
          obtain ⟨m1, m0, m3, m2⟩ := hMU G w φ u (a.eval y) (a.eval z) hs.inv e3 (hr y _ hoy hy) (hr z _ hoz hz)
          have hfk := run_findKey_eq (P := P) w (k := kt) (by rw [k2]) (a.eval y) es.toList
          have key : ∃ es' clk', (Instr.mapUpdate t (.map (some b)) (a.eval y) (a.eval z)).run P w = .ok () (w.putObj b (.map es' clk')) ∧ (∀ e ∈ es'.toList, e.born < clk') ∧ ∀ e ∈ es'.toList, Amb.memo G u e.key e.val := by
            rcases run_ask (P := P) w kt (a.eval y) es.toList 0 (fun e he => by obtain ⟨b, hb, _⟩ := m2 e.key e.val (e6 e he); exact ⟨b, hb⟩) with h4 | ⟨j, e', h4, h5, h6⟩
            · refine ⟨es.push { key := a.eval y, val := a.eval z, born := clk }, clk + 1, ?_, fun e he => ?_, fun e he => ?_⟩
              · simp [Instr.mapUpdate, run_underlying h2, MapKept.run_getObj_map e4, m1, hfk, h4, MapKept.run_setObj_map _ e4, Result.andThen, World.putObj]
              · rw [Array.toList_push, List.mem_append] at he
                rcases he with he | he
                · have := e5 e he; omega
                · simp at he; subst he; exact Nat.lt_succ_self _
              · rw [Array.toList_push, List.mem_append] at he
                rcases he with he | he
                · exact e6 e he
                · simp at he; subst he; exact m3
            · obtain ⟨b', hb, hb2⟩ := m2 e'.key e'.val (e6 e' (List.mem_of_getElem? h5))
              rw [h6] at hb
              injection hb with hb
              have hkey := hb2 hb.symm
              have h5' : es[j]? = some e' := by simpa using h5
              rw [Nat.zero_add] at h4
              refine ⟨es.modify j fun e => { e with key := a.eval y, val := a.eval z }, clk, ?_, fun e he => ?_, fun e he => ?_⟩
              · simp [Instr.mapUpdate, run_underlying h2, MapKept.run_getObj_map e4, m1, hfk, h4, h5', hkey, Instr.keyThatStays, m0, MapKept.run_setObj_map _ e4, Result.andThen, World.putObj]
              · rw [Array.toList_modify] at he
                obtain ⟨m, hm⟩ := List.getElem?_of_mem he
                rw [List.getElem?_modify] at hm
                cases hq : es.toList[m]? with
                | none => rw [hq] at hm; cases hm
                | some q =>
                  rw [hq] at hm
                  have hq' := e5 q (List.mem_of_getElem? hq)
                  by_cases hjm : j = m
                  · simp [hjm] at hm; subst hm; exact hq'
                  · simp [hjm] at hm; subst hm; exact hq'
              · rw [Array.toList_modify] at he
                obtain ⟨m, hm⟩ := List.getElem?_of_mem he
                rw [List.getElem?_modify] at hm
                cases hq : es.toList[m]? with
                | none => rw [hq] at hm; cases hm
                | some q =>
                  rw [hq] at hm
                  have hq' := e6 q (List.mem_of_getElem? hq)
                  by_cases hjm : j = m
                  · simp [hjm] at hm; subst hm; exact m3
                  · simp [hjm] at hm; subst hm; exact hq'
          obtain ⟨es', clk', u1, u2, u3⟩ := key
          obtain ⟨s1, s2⟩ := hs.memoWrite e2 e4 u2 u3
          rw [upd_nil] at hK
          unfold Oper.wp
          have run : (execOp a.eval o).run P w = .ok .skip (w.putObj b (.map es' clk')) := by
            unfold execOp
            rcases ho with ho | ho <;> (rw [ho]; simp only [Sem.run_bind, e1, u1, Result.andThen_ok, Sem.run_pure])
          rw [run, Oper.upon_skip]
          exact hK undef _ _ _ s1 s2 trivial
        · exact h.elim
      · exact h.elim
    · exact h.elim
  · exact h.elim
end
end Go.Proofs.YtblnfodnkacbbaaGreatDoor.Q

set_option maxHeartbeats 1000000
namespace Go.Proofs.YtblnfodnkacbbaaGreatDoor.Q
variable [Amb]
section
variable {P : Program} {tt : TT} {o : Oper} {ρ : Env} {H : List Ob} {K : Eff → Prop}
def isIfT (P : Program) (t : TypeId) : Bool := match P.underlying t with
  | some (.interface _) => true
  | _ => false
/-- A type that is there, and no interface. -/
def isConT (P : Program) (t : TypeId) : Bool := match P.underlying t with
  | some (.interface _) => false
  | some _ => true
  | none => false
/-- What is put into an interface. -/
def shutD : V → Option Value
  | .d (.int k n) => some (.int k n)
  | .d (.str s) => some (.string ⟨s.toArray⟩)
  | .d (.bool b) => some (.bool b)
  | _ => none
theorem shutD_rep {X : V} {u : Value} (h : shutD X = some u) {G : Imm} {φ : Loc} {v : Value} (hr : X.rep G φ v) : v = u := by
  unfold shutD at h
  split at h <;> first | (injection h with h; subst h; exact hr) | cases h
def pIface (P : Program) (t : TypeId) (X : V) (K : Eff → Prop) : Prop := match isConT P t, shutD X with
  | true, some u => kv K (.d (.raw (.iface t u)))
  | _, _ => False
theorem pIface_sem {t : TypeId} {x : Operand} {X : V} (ho : o.op = .makeInterface t x) (hx : ev ρ x = some X) (h : pIface P t X K) : ∃ e, K e ∧ Tri P o ρ H e := by
  have hox : x ∈ o.op.operands := by rw [ho]; simp [Op.operands]
  unfold pIface at h
  split at h
  · rename_i u hc hu
    refine kv_sem h fun a G w φ hi hr => ⟨.iface t u, ?_, rfl, rfl⟩
    have ex : a.eval x = u := shutD_rep hu (hr x _ hox hx)
    unfold execOp
    rw [ho]
    unfold isConT at hc
    split at hc
    · cases hc
    · rename_i d hd hnd
      have := run_underlying (w := w) hnd
      cases d <;> first | (simp [Instr.makeInterface, ex, this]; done) | exact absurd rfl (hd _)
    · cases hc
  · exact h.elim
/-- Of which type a value in an interface is. -/
def pAssert (P : Program) (tt : TT) (s : TypeId) (X : V) (ok : Bool) (K : Eff → Prop) : Prop := match isConT P s, tt s, X with
  | true, some e, .d (.raw (.iface t u)) => match Nat.beq t s with
    | true => match ofVal u with
      | some x => (match ok with
        | true => kv K (.tup [x, .d (.bool true)])
        | false => kv K x)
      | none => False
    | false => match ok, e.zero with
      | true, some z => kv K (.tup [z, .d (.bool false)])
      | _, _ => False
  | _, _, _ => False
theorem pAssert_sem (htt : TTok P tt) {t s : TypeId} {x : Operand} {X : V} {ok : Bool} (ho : o.op = .typeAssert x t s ok) (hx : ev ρ x = some X) (h : pAssert P tt s X ok K) : ∃ e, K e ∧ Tri P o ρ H e := by
  have hox : x ∈ o.op.operands := by rw [ho]; simp [Op.operands]
  unfold pAssert at h
  split at h
  · rename_i e t' u hc he
    have hund : ∃ d, P.underlying s = some d ∧ ∀ ms, d ≠ .interface ms := by
      unfold isConT at hc
      split at hc
      · cases hc
      · rename_i d hd hnd; exact ⟨d, hnd, fun ms e => hd ms e⟩
      · cases hc
    obtain ⟨d, hd1, hd2⟩ := hund
    have ex : ∀ (a : Act) (G : Imm) (φ : Loc), OpRep o ρ a G φ → a.eval x = .iface t' u := fun a G φ hr => (hr x _ hox hx).1
    split at h
    · rename_i hts
      have hts := Nat.eq_of_beq_eq_true hts
      subst hts
      split at h
      · rename_i y hy
        split at h
        · refine kv_sem h fun a G w φ hi hr => ⟨.tuple #[u, .bool true], ?_, ?_⟩
          · unfold execOp
            rw [ho]
            have := run_underlying (w := w) hd1
            cases d <;> first | (simp [Instr.typeAssert, ex a G φ hr, this]; done) | exact absurd rfl (hd2 _)
          · exact ⟨[u, .bool true], rfl, u, [.bool true], rfl, (ofVal_rep hy G φ).1, .bool true, [], rfl, rfl, rfl⟩
        · refine kv_sem h fun a G w φ hi hr => ⟨u, ?_, (ofVal_rep hy G φ).1⟩
          unfold execOp
          rw [ho]
          have := run_underlying (w := w) hd1
          cases d <;> first | (simp [Instr.typeAssert, ex a G φ hr, this]; done) | exact absurd rfl (hd2 _)
      · exact h.elim
    · rename_i hts
      have hne : t' ≠ s := fun e => by subst e; simp at hts
      split at h
      · rename_i z hz
        refine kv_sem h fun a G w φ hi hr => ?_
        obtain ⟨v, v1, v2, _⟩ := run_zero (P := P) w htt he hz
        refine ⟨.tuple #[v, .bool false], ?_, ⟨[v, .bool false], rfl, v, [.bool false], rfl, v2 G φ, .bool false, [], rfl, rfl, rfl⟩⟩
        unfold execOp
        rw [ho]
        have := run_underlying (w := w) hd1
        cases d <;> first | (simp [Instr.typeAssert, ex a G φ hr, this, hne, v1]; done) | exact absurd rfl (hd2 _)
      · exact h.elim
  · exact h.elim
theorem run_eqIn {t : TypeId} {ms : Array (String × TypeId)} (h : P.underlying t = some (.interface ms)) (w : World) (d : Nat) : (Op.equalIn (d + 1) t .nilIface .nilIface).run P w = .ok true w ∧ ∀ t' u, (Op.equalIn (d + 1) t (.iface t' u) .nilIface).run P w = .ok false w := by
  have := run_underlying (w := w) h
  refine ⟨?_, fun t' u => ?_⟩
  · rw [Op.equalIn, Sem.run_bind, this]; rfl
  · rw [Op.equalIn, Sem.run_bind, this]; rfl
theorem run_eqN {t : TypeId} {ms : Array (String × TypeId)} (h : P.underlying t = some (.interface ms)) (w : World) : (Op.equal t .nilIface .nilIface).run P w = .ok true w ∧ ∀ t' u, (Op.equal t (.iface t' u) .nilIface).run P w = .ok false w := run_eqIn h w (Op.maxDepth - 1)
/-- Held against nil, written out. -/
def pEqNil (P : Program) (op : BinOp) (t : TypeId) (y : Operand) (X : V) (K : Eff → Prop) : Prop := match isIfT P t, y, X with
  | true, .const .nilIface, .d (.raw .nilIface) => (match op with
    | .eql => kv K (.d (.bool true))
    | .neq => kv K (.d (.bool false))
    | _ => False)
  | true, .const .nilIface, .d (.raw (.iface _ _)) => (match op with
    | .eql => kv K (.d (.bool false))
    | .neq => kv K (.d (.bool true))
    | _ => False)
  | _, _, _ => False
theorem pEqNil_sem {op : BinOp} {t t2 : TypeId} {x y : Operand} {X : V} (ho : o.op = .binOp op t x y t2) (hx : ev ρ x = some X) (h : pEqNil P op t y X K) : ∃ e, K e ∧ Tri P o ρ H e := by
  have hox : x ∈ o.op.operands := by rw [ho]; simp [Op.operands]
  have hif : isIfT P t = true → ∃ ms, P.underlying t = some (.interface ms) := fun h => by
    unfold isIfT at h
    split at h
    · rename_i ms hms; exact ⟨ms, hms⟩
    · cases h
  unfold pEqNil at h
  split at h
  · rename_i hi0
    obtain ⟨ms, hms⟩ := hif hi0
    have ex : ∀ (a : Act) (G : Imm) (φ : Loc), OpRep o ρ a G φ → a.eval x = .nilIface := fun a G φ hr => (hr x _ hox hx).1
    split at h
    · refine kv_sem h fun a G w φ hi hr => ⟨.bool true, ?_, rfl⟩
      have := run_underlying (w := w) hms
      unfold execOp
      rw [ho]
      simp [eqGuard, ex a G φ hr, show a.eval (.const .nilIface) = .nilIface from rfl, binOp, (run_eqN hms w).1, (run_eqN hms w).2]
    · refine kv_sem h fun a G w φ hi hr => ⟨.bool false, ?_, rfl⟩
      have := run_underlying (w := w) hms
      unfold execOp
      rw [ho]
      simp [eqGuard, ex a G φ hr, show a.eval (.const .nilIface) = .nilIface from rfl, binOp, (run_eqN hms w).1, (run_eqN hms w).2]
    · exact h.elim
  · rename_i t' u hi0
    obtain ⟨ms, hms⟩ := hif hi0
    have ex : ∀ (a : Act) (G : Imm) (φ : Loc), OpRep o ρ a G φ → a.eval x = .iface t' u := fun a G φ hr => (hr x _ hox hx).1
    split at h
    · refine kv_sem h fun a G w φ hi hr => ⟨.bool false, ?_, rfl⟩
      have := run_underlying (w := w) hms
      unfold execOp
      rw [ho]
      simp [eqGuard, ex a G φ hr, show a.eval (.const .nilIface) = .nilIface from rfl, binOp, (run_eqN hms w).1, (run_eqN hms w).2]
    · refine kv_sem h fun a G w φ hi hr => ⟨.bool true, ?_, rfl⟩
      have := run_underlying (w := w) hms
      unfold execOp
      rw [ho]
      simp [eqGuard, ex a G φ hr, show a.eval (.const .nilIface) = .nilIface from rfl, binOp, (run_eqN hms w).1, (run_eqN hms w).2]
    · exact h.elim
  · exact h.elim
/-- An array that may be written is written over, all of it. -/
def pCopy (tt : TT) (t t2 : TypeId) (X Y : V) (H : List Ob) (K : Eff → Prop) : Prop :=
  match tt t, rowsX tt t2 Y, X with
  | some e, some qs, .arr id 0 len =>
    match e.kind, H[id]? with
    | .slice el, some (.parr esz rows) => match tt el with
      | some te => condP (Nat.beq esz te.size) ((rows.length = len ∧ qs.length = len ∧ RL qs te.size) ∧ K ⟨.d (.int .i64 (len : Nat)), [id], [(id, .parr esz qs)], []⟩)
      | none => False
    | _, _ => False
  | _, _, _ => False
theorem rowsIn_one {G : Imm} {us : List Value} {e : Nat} {rows : List (List D)} (h : RowsIn G us e rows) : ∀ v ∈ us, v.oneCell' = true := by
  intro v hv
  obtain ⟨m, hm⟩ := List.getElem?_of_mem hv
  have hlt := lt_of_get hm
  rw [h.1] at hlt
  have he : 0 < e := by
    rcases Nat.eq_zero_or_pos e with h0 | h0
    · rw [h0, Nat.mul_zero] at hlt; omega
    · exact h0
  have hi : m / e < rows.length := Nat.div_lt_of_lt_mul (by rw [Nat.mul_comm]; exact hlt)
  obtain ⟨h1, h2⟩ := h.2 (m / e) _ (List.getElem?_eq_getElem hi)
  have hj : m % e < (rows[m / e]).length := by rw [h1]; exact Nat.mod_lt _ he
  obtain ⟨u, u1, u2⟩ := h2 (m % e) _ (List.getElem?_eq_getElem hj)
  rw [Nat.mul_comm, Nat.div_add_mod, hm] at u1
  injection u1 with u1
  subst u1
  exact D.rep_one u2
theorem pCopy_sem (htt : TTok P tt) {t t2 : TypeId} {x y : Operand} {X Y : V} (ho : o.op = .call { callee := .builtin .copy, args := #[x, y], argTypes := #[t, t2] }) (hx : ev ρ x = some X) (hy : ev ρ y = some Y) (h : pCopy tt t t2 X Y H K) : ∃ e, K e ∧ Tri P o ρ H e := by
  have hox : x ∈ o.op.operands := by rw [ho]; simp [Op.operands, Call.operands]
  have hoy : y ∈ o.op.operands := by rw [ho]; simp [Op.operands, Call.operands]
  have run : ∀ (a : Act) (w w' : World) (v : Value), (Builtin.copy_ #[t, t2] o.type #[a.eval x, a.eval y]).run P w = .ok v w' → (execOp a.eval o).run P w = .ok (.value v) w' := by
    intro a w w' v e1
    unfold execOp
    rw [ho]
    simp [resolve, invoke, builtin, e1]
  unfold pCopy at h
  split at h
  · rename_i e qs id len he hqs
    obtain ⟨ti, d, h1, h2, _, _, h3, _⟩ := tt_get htt he
    split at h
    · rename_i el esz rows hk hH
      rw [hk] at h3; rw [mkK_slice h3] at h2
      split at h
      · rename_i te hte
        obtain ⟨i, d', i1, i2, i3, i4, _, i5⟩ := tt_get htt hte
        obtain ⟨hc, ⟨hl1, hl2, hql⟩, hk'⟩ := condP_out h
        have hc := Nat.eq_of_beq_eq_true hc
        subst hc
        have hid := lt_of_get hH
        refine ⟨_, hk', ⟨fun p hp => by rw [List.mem_singleton.1 hp]; exact hid, fun p hp => by rw [List.mem_singleton.1 hp]; exact hid, fun a G w φ Hx K Q hs hr ha hf hK => ?_⟩⟩
        obtain ⟨b, c, g1, k, gk, g2⟩ := hr x _ hox hx
        have hHx : Hx id = some (.parr te.size rows) := (ha id (.inr ⟨_, List.mem_singleton.2 rfl, rfl⟩)).trans hH
        obtain ⟨b', T, us, k1, k2, k3, k4, k5⟩ := hs.holds id _ hHx
        rw [g1] at k1; injection k1 with k1; injection k1 with k1 k1'; injection k1 with k1; injection k1 with k1; subst k1; subst k1'
        obtain ⟨d2, q1, q2, q3, news, q4, q5⟩ := rowsX_run (P := P) htt hqs hql (hr y _ hoy hy) w hs.inv
        rw [hl2] at q5
        have hnl : news.length ≤ us.length := by rw [q4.1, hl2, ← hl1]; exact k3
        have hst := run_storeCells_at P b 0 T news 0 us.toArray w k2 (by simpa using hnl) (rowsIn_one q4)
        have hrow : (us.toArray.toList.take (0 + 0) ++ news ++ us.toArray.toList.drop (0 + 0 + news.length)).toArray = (news ++ us.drop news.length).toArray := by simp
        rw [hrow] at hst
        have hmin : Nat.min qs.length len = qs.length := by rw [hl2]; exact Nat.min_self _
        have hru : (Builtin.copy_ #[t, t2] o.type #[a.eval x, a.eval y]).run P w = .ok (.int .i64 (len : Nat)) (w.setRow b (news ++ us.drop news.length).toArray) := by
          rw [Nat.zero_mul] at g2
          rw [g2]
          unfold Builtin.copy_
          simp only [List.getElem?_toArray, List.getElem?_cons_zero, List.getElem?_cons_succ, Sem.run_bind, run_underlying h2, Result.andThen_ok, q3, sizeOf, typeInfo, i1, hmin, i3, q5, hst, Sem.run_pure, Sem.run_map]
          simp [i3, q5, hst, hmin, goInt, hl2, i1, Result.andThen]
        rw [upd_one] at hK
        have hw := hs.write id b _ (.parr te.size qs) (news ++ us.drop news.length).toArray hHx (by simp [Owns, own, g1]) k5
          ⟨b, T, _, g1, setRow_heap w b _ _ T _ k2, by rw [List.length_append, q4.1]; omega, fun j r hj => ⟨(q4.2 j r hj).1, fun m d hm => by
            obtain ⟨u, u1, u2⟩ := (q4.2 j r hj).2 m d hm
            exact ⟨u, by rw [List.getElem?_append_left (lt_of_get u1)]; exact u1, u2⟩⟩, k5⟩ (fun b' hb' => by simp [Owns, own, g1] at hb'; exact hb'.symm)
        unfold Oper.wp
        rw [run a w _ _ hru, Oper.upon_value]
        exact hK _ _ _ _ hw.1 hw.2 rfl
      · exact h.elim
    · exact h.elim
  · exact h.elim
end
end Go.Proofs.YtblnfodnkacbbaaGreatDoor.Q

namespace Go.Proofs.YtblnfodnkacbbaaGreatDoor.Q
variable [Amb]
def ev1 (ρ : Env) (x : Operand) (k : V → Prop) : Prop := match ev ρ x with
  | some X => k X
  | none => False
def ev2 (ρ : Env) (x y : Operand) (k : V → V → Prop) : Prop := match ev ρ x, ev ρ y with
  | some X, some Y => k X Y
  | _, _ => False
def evsP (ρ : Env) (xs : List Operand) (k : List V → Prop) : Prop := match evs ρ xs with
  | some X => k X
  | none => False
def evPartsP (ρ : Env) (xs : List (Nat × Operand)) (k : List (Nat × V) → Prop) : Prop := match evParts ρ xs with
  | some X => k X
  | none => False
theorem ev1_out {ρ : Env} {x : Operand} {k : V → Prop} (h : ev1 ρ x k) : ∃ X, ev ρ x = some X ∧ k X := by
  unfold ev1 at h; split at h
  · rename_i X hX; exact ⟨X, hX, h⟩
  · exact h.elim
theorem ev2_out {ρ : Env} {x y : Operand} {k : V → V → Prop} (h : ev2 ρ x y k) : ∃ X Y, ev ρ x = some X ∧ ev ρ y = some Y ∧ k X Y := by
  unfold ev2 at h; split at h
  · rename_i X Y hX hY; exact ⟨X, Y, hX, hY, h⟩
  · exact h.elim
theorem evsP_out {ρ : Env} {xs : List Operand} {k : List V → Prop} (h : evsP ρ xs k) : ∃ X, evs ρ xs = some X ∧ k X := by
  unfold evsP at h; split at h
  · rename_i X hX; exact ⟨X, hX, h⟩
  · exact h.elim
theorem evPartsP_out {ρ : Env} {xs : List (Nat × Operand)} {k : List (Nat × V) → Prop} (h : evPartsP ρ xs k) : ∃ X, evParts ρ xs = some X ∧ k X := by
  unfold evPartsP at h; split at h
  · rename_i X hX; exact ⟨X, hX, h⟩
  · exact h.elim

/-! ### one of two -/
def optK (K : Eff → Prop) : Option V → Prop
  | some X => kv K X
  | none => False
def pPick (C : V) (X Y : Option V) (K : Eff → Prop) : Prop :=
  match C with
  | .d (.bool b) => brP b (optK K X) (optK K Y)
  | _ => False
/-! ### max, min -/
def intsOf (k : IntKind) : List V → Option (List Int)
  | [] => some []
  | .d (.int j n) :: r => bif kindEq j k then (match intsOf k r with | some ns => some (n :: ns) | none => none) else none
  | _ => none
def maxI (x : Int) : List Int → Int
  | [] => x
  | y :: ys => maxI (if y > x then y else x) ys
def minI (x : Int) : List Int → Int
  | [] => x
  | y :: ys => minI (if y < x then y else x) ys
def pMM (mx : Bool) (xs : List V) (K : Eff → Prop) : Prop :=
  match xs with
  | .d (.int k n) :: r => match intsOf k r with
    | some ns => kv K (.d (.int k (match mx with | true => maxI n ns | false => minI n ns)))
    | none => False
  | _ => False

/-! ### calls -/
/-- An argument, as it is handed on: what is written out as a nil slice stays one. -/
def plainO (o : Operand) (x : V) : V := match o with
  | .const v => match v with
    | .slice _ _ _ => x
    | _ => x.plain
  | _ => x.plain
def plainsO : List Operand → List V → List V
  | o :: os, x :: xs => plainO o x :: plainsO os xs
  | _, xs => plains xs
theorem plainO_rep {G : Imm} {φ : Loc} (o : Operand) (x : V) (v : Value) (h : x.rep G φ v) : (plainO o x).rep G φ v := by
  unfold plainO
  split
  · split
    · exact h
    · exact V.plain_rep x v h
  · exact V.plain_rep x v h
theorem plainsO_rep {G : Imm} {φ : Loc} : ∀ (os : List Operand) (xs : List V) (us : List Value), repVs G φ xs us → repVs G φ (plainsO os xs) us
  | [], xs, us, h => plains_rep xs us h
  | o :: os, [], us, h => h
  | o :: os, x :: xs, us, ⟨u, us', e, h1, h2⟩ => ⟨u, us', e, plainO_rep o x u h1, plainsO_rep os xs us' h2⟩
def fnArgs (ρ : Env) (c : Call) : Option (FuncId × List V) :=
  match c.callee with
  | .value f => match ev ρ f with
    | some (.fn (.func g) first captured) => match evs ρ c.args.toList with
      | some xs => some (g, plains first ++ plainsO c.args.toList xs ++ plains captured)
      | none => none
    | _ => none
  | _ => none
/-- One result, whatever the order. -/
def callE (P : Program) (ρ : Env) (H : List Ob) (c : Call) (K : Eff → Prop) : Prop :=
  match fnArgs ρ c with
  | some (g, zs) => lendE H zs fun ids ys h => ∃ r h', PFun P g ys h r h' ∧ backE ids H.length r h' K
  | none => False
/-- The function that is called back. -/
def callY (P : Program) (ρ : Env) (H : List Ob) (c : Call) (K : Eff → Prop) : Prop :=
  match c.callee with
  | .value f => match ev ρ f with
    | some (.yld id) => match evs ρ c.args.toList, H[id]? with
      | some zs, some (.hist xs) => match rens (fun _ => none) (plains zs) with
        | some ys => (Amb.ok P (xs ++ [ys]) ∧ ∀ m, 0 < m → m ≤ xs.length → Amb.go (xs.take m) = true) ∧
            brP (Amb.go (xs ++ [ys])) (K ⟨.d (.bool true), [], [(id, .hist (xs ++ [ys]))], []⟩) (K ⟨.d (.bool false), [], [(id, .hist (xs ++ [ys]))], []⟩)
        | none => False
      | _, _ => False
    | _ => False
  | _ => False
/-- Results such as R says. -/
def callR (P : Program) (ρ : Env) (H : List Ob) (c : Call) (K : Eff → Prop) : Prop :=
  match fnArgs ρ c with
  | some (g, zs) => lendE H zs fun ids ys h => PCalls P g ys h fun r h' => backE ids H.length r h' K
  | none => callY P ρ H c K
def appB (tt : TT) (t u : TypeId) (X Y : V) (H : List Ob) (K : Eff → Prop) : Prop := match X with
  | .fsl rows => match rows with
    | [] => pApp tt t u (.fsl []) Y H K ∨ pAppArr tt t u (.fsl []) Y H K
    | r :: rs => pApp tt t u (.fsl (r :: rs)) Y H K
  | X => pApp tt t u X Y H K
theorem appB_out {tt : TT} {t u : TypeId} {X Y : V} {H : List Ob} {K : Eff → Prop} (h : appB tt t u X Y H K) : pApp tt t u X Y H K ∨ pAppArr tt t u X Y H K := by
  unfold appB at h
  split at h
  · split at h
    · exact h
    · exact .inl h
  · exact .inl h
def popB (tt : TT) (ρ : Env) (H : List Ob) (b : Builtin) (args : List Operand) (tys : List TypeId) (K : Eff → Prop) : Prop :=
  match b, args, tys with
  | .len, [x], [t] => ev1 ρ x fun X => pLen tt t X K
  | .append, [x, y], [t, u] => ev2 ρ x y fun X Y => appB tt t u X Y H K
  | .max, xs, _ => evsP ρ xs fun X => pMM true X K
  | .min, xs, _ => evsP ρ xs fun X => pMM false X K
  | .copy, [x, y], [t, u] => ev2 ρ x y fun X Y => pCopy tt t u X Y H K
  | _, _, _ => False
/-- What an operation does. -/
def pUpA (P : Program) (tt : TT) (t : TypeId) (X Y Z : V) (H : List Ob) (K : Eff → Prop) : Prop := match X with
  | .map id => match H[id]? with
    | some (.iset xs) => pSetUp tt t id xs Y Z K
    | _ => pMapUp tt t (.map id) Y Z H K
  | .d (.memo mt) => pUpM P tt t mt Y Z K
  | X => pMapUp tt t X Y Z H K
def popE (P : Program) (tt : TT) (ρ : Env) (H : List Ob) (o : Op) (K : Eff → Prop) : Prop :=
  match o with
  | .move x => ev1 ρ x fun X => kv K X
  | .assign x => ev1 ρ x fun X => kv K X
  | .alloc t => pAlloc tt t H K
  | .box t x => ev1 ρ x fun X => pBox tt t X H K
  | .build t ps => evPartsP ρ ps.toList fun X => pBuild tt t X K
  | .buildSlice t n ps => evPartsP ρ ps.toList fun X => pBS tt t n X K
  | .load t x => ev1 ρ x fun X => pLoad tt t X H K
  | .store t x y => ev2 ρ x y fun X Y => pStore tt t X Y H K
  | .nilCheck x => ev1 ρ x fun X => pNil X K
  | .binOp op t x y _ => ev2 ρ x y fun X Y => match X with
    | .d (.raw u) => pEqNil P op t y (.d (.raw u)) K
    | X => pBin tt op t X Y K
  | .unOp op _ x => ev1 ρ x fun X => pUn op X K
  | .pick c x y => ev1 ρ c fun C => pPick C (ev ρ x) (ev ρ y) K
  | .convert s t x => ev1 ρ x fun X => pConvB tt s t X K
  | .makeFunc f a b => evsP ρ a.toList fun X => evsP ρ b.toList fun Y => kv K (.fn f X Y)
  | .makeSlice t x y => ev2 ρ x y fun X Y => pMake tt t (isZero x) X Y H K
  | .slice t x lo hi none => ev1 ρ x fun X => match bnd ρ lo, bnd ρ hi with
    | some l, some h => pCut tt t X l h K
    | _, _ => False
  | .fieldAddr s x f => ev1 ρ x fun X => pFA tt s X f K
  | .field s x f => ev1 ρ x fun X => pField tt s X f K
  | .indexAddr t x y => ev2 ρ x y fun X Y => pIA tt t X Y H K
  | .index t x y => ev2 ρ x y fun X Y => pIx tt t X Y K
  | .extract x i => ev1 ρ x fun X => pExt X i K
  | .call c => match c.callee with
    | .builtin b => popB tt ρ H b c.args.toList c.argTypes.toList K
    | _ => callE P ρ H c K
  | .makeMap t r => match r with
    | none => match isSetT tt t with
      | true => K ⟨.map H.length, [], [], [.iset []]⟩
      | false => pMkMap tt t none H K
    | some x => ev1 ρ x fun X => pMkMap tt t (some X) H K
  | .lookup t x y ok => ev2 ρ x y fun X Y => match X with
    | .d (.set xs) => pLookS tt t xs Y ok K
    | .d (.memo mt) => pLookM P tt t mt Y ok H K
    | X => pLook tt t X Y ok H K ∨ pLookI tt t X Y ok H K ∨ pLookIS tt t X Y ok H K
  | .mapUpdate t x y z => ev2 ρ x y fun X Y => ev1 ρ z fun Z => pUpA P tt t X Y Z H K
  | .insert t x y z => ev2 ρ x y fun X Y => ev1 ρ z fun Z => pUpA P tt t X Y Z H K
  | .range t x => ev1 ρ x fun X => match X with
    | .d (.set xs) => pRangeS tt t xs H K
    | _ => False
  | .entry x => ev1 ρ x fun X => pEntryS X H K
  | .makeInterface t x => ev1 ρ x fun X => pIface P t X K
  | .typeAssert x _ s ok => ev1 ρ x fun X => pAssert P tt s X ok K
  | _ => False
section
variable {P : Program} {tt : TT} {o : Oper} {ρ : Env} {H : List Ob} {K : Eff → Prop}
theorem intsOf_rep {k : IntKind} : ∀ {xs : List V} {ns : List Int}, intsOf k xs = some ns → ∀ {G : Imm} {φ : Loc} {us : List Value}, repVs G φ xs us → us = ns.map (Value.int k)
  | [], ns, h, G, φ, us, hr => by injection h with h; subst h; exact hr
  | x :: xs, ns, h, G, φ, us, hr => by
    unfold intsOf at h
    split at h
    · rename_i h1; cases h1
    · rename_i j n r heq
      injection heq with h1 h2
      subst h1; subst h2
      cases hk : kindEq j k with
      | false => rw [hk] at h; cases h
      | true =>
        rw [hk] at h
        dsimp only [cond] at h
        split at h
        · rename_i ms hms
          injection h with h; subst h
          obtain ⟨u, us', e, h1, h2⟩ := hr
          rw [e, intsOf_rep hms h2]
          have : u = .int j n := h1
          rw [this, kindEq_spec hk]; rfl
        · cases h
    · cases h
theorem run_max (w : World) (k : IntKind) : ∀ (ns : List Int) (n : Int), ((ns.map (Value.int k)).foldlM Builtin.max2 (.int k n)).run P w = .ok (.int k (maxI n ns)) w
  | [], n => rfl
  | m :: ms, n => by
    rw [List.map_cons, List.foldlM_cons, Sem.run_bind]
    show (Result.ok (Value.int k (if m > n then m else n)) w).andThen _ = _
    exact run_max w k ms _
theorem run_min (w : World) (k : IntKind) : ∀ (ns : List Int) (n : Int), ((ns.map (Value.int k)).foldlM Builtin.min2 (.int k n)).run P w = .ok (.int k (minI n ns)) w
  | [], n => rfl
  | m :: ms, n => by
    rw [List.map_cons, List.foldlM_cons, Sem.run_bind]
    show (Result.ok (Value.int k (if m < n then m else n)) w).andThen _ = _
    exact run_min w k ms _
theorem oprep_list {a : Act} {G : Imm} {φ : Loc} : ∀ {os : List Operand} {zs : List V}, (∀ x ∈ os, x ∈ o.op.operands) → OpRep o ρ a G φ → evs ρ os = some zs → repVs G φ zs (os.map a.eval)
  | [], zs, _, _, hz => by simp [evs] at hz; subst hz; rfl
  | x :: os, zs, hm, hr, hz => by
    unfold evs at hz
    split at hz
    · rename_i X hX
      split at hz
      · rename_i ws hws
        injection hz with hz; subst hz
        exact ⟨_, _, rfl, hr x X (hm x List.mem_cons_self) hX, oprep_list (fun y hy => hm y (List.mem_cons_of_mem _ hy)) hr hws⟩
      · cases hz
    · cases hz
theorem pMM_sem {mx : Bool} {args : Array Operand} {tys : Array TypeId} {xs : List V} (ho : o.op = .call { callee := .builtin (match mx with | true => .max | false => .min), args := args, argTypes := tys }) (hx : evs ρ args.toList = some xs) (h : pMM mx xs K) : ∃ e, K e ∧ Tri P o ρ H e := by
  unfold pMM at h
  split at h
  · rename_i k n r
    split at h
    · rename_i ns hns
      refine kv_sem h fun a G w φ hi hr => ⟨_, ?_, rfl⟩
      have hm : ∀ x ∈ args.toList, x ∈ o.op.operands := by
        intro x hx
        rw [ho]
        simp only [Op.operands, Call.operands]
        cases mx <;> simpa using hx
      have hrep := oprep_list hm hr hx
      obtain ⟨u, us, e1, e2, e3⟩ := hrep
      have e2 : u = .int k n := e2
      have e4 := intsOf_rep hns e3
      have hargs : (args.map a.eval).toList = .int k n :: ns.map (Value.int k) := by rw [Array.toList_map, e1, e2, e4]
      unfold execOp
      rw [ho]
      cases mx with
      | true => simp only [resolve, invoke, builtin, Builtin.max_, Sem.run_bind, Sem.run_pure, Result.andThen_ok, hargs, run_max]
      | false => simp only [resolve, invoke, builtin, Builtin.min_, Sem.run_bind, Sem.run_pure, Result.andThen_ok, hargs, run_min]
    · exact h.elim
  · exact h.elim
theorem lendE_out {zs : List V} {k : List Nat → List V → List Ob → Prop} (h : lendE H zs k) : ∃ ids ys hh, rens (pos ids) zs = some ys ∧ obsAt H (pos ids) ids = some hh ∧ ids.Nodup ∧ k ids ys hh := by
  unfold lendE at h
  dsimp only at h
  split at h
  · rename_i ys hh h1 h2
    obtain ⟨h3, h4⟩ := condP_out h
    exact ⟨_, ys, hh, h1, h2, nodupB_spec h3, h4⟩
  · exact h.elim
theorem fnArgs_run {c : Call} {g : FuncId} {zs : List V} (ho : o.op = .call c) (h : fnArgs ρ c = some (g, zs)) {a : Act} {G : Imm} {φ : Loc} (hr : OpRep o ρ a G φ) (hf : ∃ fn, P.funcs[g]? = some fn ∧ (fn.name == "runtime.NumGoroutine") = false ∧ fn.body.isNone = false) (w : World) :
    ∃ vs : List Value, repVs G φ zs vs ∧ (execOp a.eval o).run P w = .ok (.enter g vs.toArray) w := by
  unfold fnArgs at h
  split at h
  · rename_i f hcal
    split at h
    · rename_i g' first captured hf1
      split at h
      · rename_i xs hxs
        injection h with h
        injection h with h1 h2
        subst h1; subst h2
        have hfm : f ∈ o.op.operands := by rw [ho]; simp [Op.operands, Call.operands, hcal]
        obtain ⟨us, vs, e1, e2, e3⟩ := hr f _ hfm hf1
        have hx := oprep_list (o := o) (a := a) (G := G) (φ := φ) (fun x hx => by rw [ho]; simp [Op.operands, Call.operands]; right; simpa using hx) hr hxs
        refine ⟨us ++ c.args.toList.map a.eval ++ vs, repVs_append (repVs_append (plains_rep _ _ e2) (plainsO_rep _ _ _ hx)) (plains_rep _ _ e3), ?_⟩
        obtain ⟨fn, f1, f2, f3⟩ := hf
        unfold execOp
        rw [ho]
        simp only [Sem.run_bind, resolve, hcal, e1, Deferred.ofValue, Sem.run_pure, Result.andThen_ok, invoke, callFunc, run_program, f1, f2, f3, Bool.false_eq_true, if_false]
        congr 2
        apply Array.ext'
        simp
      · cases h
    · cases h
  · cases h
theorem callE_sem {c : Call} (ho : o.op = .call c) (h : callE P ρ H c K) : ∃ e, K e ∧ Tri P o ρ H e := by
  unfold callE at h
  split at h
  · rename_i g zs hargs
    obtain ⟨ids, ys, hh, h1, h2, h3, r, h', hc, hb⟩ := lendE_out h
    unfold backE at hb
    split at hb
    · rename_i x obs hx hobs
      obtain ⟨hlen, hb⟩ := condP_out hb
      have hlen := Nat.le_of_ble_eq_true hlen
      obtain ⟨g1, g2⟩ := obsAt_get h2
      have hlt : ∀ i ∈ ids, i < H.length := fun i hi => by
        obtain ⟨k, hk⟩ := List.getElem?_of_mem hi
        obtain ⟨ob, _, h4, _⟩ := g2 k i hk
        exact lt_of_get h4
      have hol := (obsRen_get hobs).1
      refine ⟨_, hb, ⟨by simp, fun p hp => hlt _ (List.of_mem_zip hp).1, fun a G w φ Hx K Q hs hr ha hf hK => ?_⟩⟩
      obtain ⟨vs, v1, v2⟩ := fnArgs_run (P := P) ho hargs hr hc.1 w
      unfold Oper.wp
      rw [v2, Oper.upon_enter]
      have hag : ∀ i, i ∈ ids → Hx i = H[i]? := fun i hi => by
        refine ha i (.inr ?_)
        obtain ⟨k, hk⟩ := List.getElem?_of_mem hi
        have hkl := lt_of_get hk
        refine ⟨(i, obs[k]), ?_, rfl⟩
        have : (ids.zip obs)[k]? = some (i, obs[k]) := by
          rw [List.getElem?_zip_eq_some]
          exact ⟨hk, List.getElem?_eq_getElem (by omega)⟩
        exact List.mem_of_getElem? this
      have hls := lent_sit hs h3 hag h2
      refine (hc.2 G w (lentLoc φ ids) vs hls (rens_rep (lent_moves φ ids) _ _ _ h1 v1)).mono fun e w' ⟨v, r', h'', G', φ', e1, ⟨e2, e3⟩, e4, e5, e6, e7⟩ => ?_
      subst e1; subst e2; subst e3
      obtain ⟨q1, q2, q3⟩ := call_back (x := x) hs h3 hlt hag h2 e5 e6 e4 hobs (fun i h4 h5 => hf i h4 h5)
      exact hK v _ _ _ q1 q2 (V.ren_rep q3 _ _ _ hx e7)
    · exact hb.elim
  · exact h.elim

/-- Every frame is let in; r: the round's record, if this is a round of a range over a function. -/
def Fr (r : Option Nat) : Fence := { Fence.wide with round := r }
theorem op_in {o : Oper} (hd : ∀ c, o.op ≠ .defer c) {r : Option Nat} {a : Act} {w : World} {Kc : Act → World → Prop} {Q : Exit → Act → World → Prop} (h : o.wp P a w Kc Q) : o.wpIn (Fr r) 0 P a w Kc Q := by
  refine ⟨fun _ _ => trivial, ?_⟩
  rw [Oper.semAt_eq _ _ _ hd]
  unfold Oper.wp at h
  generalize (execOp a.eval o).run P w = res at *
  have hn : (Fr r).depth.isSome = true → 1 ≤ 0 := fun hh => by simp [Fr, Fence.wide] at hh
  cases res with
  | ok x w' =>
    cases x with
    | enter f args => exact ⟨hn, (callsIn_wide (n := 0)).2 h⟩
    | row row args => exact ⟨hn, fun c cs _ => by obtain ⟨v, w2, h1, h2⟩ := h c cs; exact ⟨v, w2, h1, stepsIn_wide.2 h2⟩⟩
    | round => exact h.elim
    | value v => exact h
    | skip => exact h
    | defer d => exact h
    | _ => exact h.elim
  | halt x w' => cases x <;> first | exact h | exact h.elim
/-- The same, one behind the other. -/
def TriS (P : Program) (o : Oper) (ρ : Env) (H : List Ob) (K : Eff → Prop) : Prop :=
  ∀ (r : Option Nat) (a : Act) (G : Imm) (w : World) (φ : Loc) (Kc : Act → World → Prop) (Q : Exit → Act → World → Prop), Sit G w φ (hp H) → OpRep o ρ a G φ →
    (∀ e v G' w' φ', K e → Sit G' w' φ' (hp (updL H e)) → Goes G w φ (hp H) G' w' φ' (hp (updL H e)) → e.x.rep G' φ' v → Kc (a.put o.dst v) w') → o.wpIn (Fr r) 0 P a w Kc Q
theorem TriS.of (hd : ∀ c, o.op ≠ .defer c) (h : ∃ e, K e ∧ Tri P o ρ H e) : TriS P o ρ H K := by
  obtain ⟨e, hk, ht⟩ := h
  intro r a G w φ Kc Q hs hr hK
  refine op_in hd ?_
  refine ht.go a G w φ (hp H) Kc Q hs hr (fun i _ => rfl) (fun i h1 h2 => List.getElem?_eq_none h1) fun v G' w' φ' h1 h2 h3 => ?_
  rw [upd_hp H e ht.wr] at h1 h2
  exact hK e v G' w' φ' hk h1 h2 h3
/-- What the history's object knows of the places, once more blocks are its own. -/
noncomputable def histLoc (φ : Loc) (id : Nat) (B : Nat → Prop) : Loc := fun i n => if i = id then (match n with
  | 0 => φ id 0
  | b + 1 => match φ id (b + 1) with
    | some z => some z
    | none => @ite _ (B b) (Classical.propDecidable _) (some (none, 0)) none) else φ i n
theorem histLoc_ne {φ : Loc} {id : Nat} {B : Nat → Prop} {i : Nat} (h : i ≠ id) (n : Nat) : histLoc φ id B i n = φ i n := by unfold histLoc; rw [if_neg h]
theorem histLoc_0 {φ : Loc} {id : Nat} {B : Nat → Prop} : histLoc φ id B id 0 = φ id 0 := by unfold histLoc; rw [if_pos rfl]
theorem histLoc_B {φ : Loc} {id : Nat} {B : Nat → Prop} (b : Nat) : (histLoc φ id B id (b + 1)).isSome = true ↔ (φ id (b + 1)).isSome = true ∨ B b := by
  unfold histLoc
  rw [if_pos rfl]
  dsimp only
  cases h : φ id (b + 1) with
  | some z => simp
  | none =>
    by_cases hb : B b
    · simp [hb]
    · simp [hb]
theorem histLoc_le {φ : Loc} {id : Nat} {B : Nat → Prop} : φ.le (histLoc φ id B) := fun i n z h => by
  by_cases hi : i = id
  · subst hi
    cases n with
    | zero => rw [histLoc_0]; exact h
    | succ b => unfold histLoc; rw [if_pos rfl]; dsimp only; rw [h]
  · rw [histLoc_ne hi]; exact h
theorem callY_sem {c : Call} (ho : o.op = .call c) (h : callY P ρ H c K) : TriS P o ρ H K := by
  unfold callY at h
  split at h
  · rename_i f hcal
    split at h
    · rename_i id hf
      split at h
      · rename_i zs xs hzs hH
        split at h
        · rename_i ys hys
          obtain ⟨⟨hok, hgo⟩, h⟩ := h
          have hK1 : K ⟨.d (.bool (Amb.go (xs ++ [ys]))), [], [(id, .hist (xs ++ [ys]))], []⟩ := by
            rcases brP_out h with ⟨e, h⟩ | ⟨e, h⟩ <;> rw [e] <;> exact h
          clear h
          intro r a G w φ Kc Q hs hr hK
          have hfm : f ∈ o.op.operands := by rw [ho]; simp [Op.operands, Call.operands, hcal]
          obtain ⟨b, cc, f1, f2⟩ := hr f _ hfm hf
          obtain ⟨⟨c0, j1⟩, j2⟩ := hs.holds id _ hH
          rw [f1] at j1
          injection j1 with j1; injection j1 with j1 j1'; injection j1 with j1; injection j1 with j1 _
          subst j1
          have hx := oprep_list (o := o) (a := a) (G := G) (φ := φ) (fun x hx => by rw [ho]; simp [Op.operands, Call.operands]; right; simpa using hx) hr hzs
          have hv : ∀ φ', repVs G φ' ys (c.args.toList.map a.eval) := fun φ' => rens_rep (f := fun _ => none) (φ1 := φ) (fun i j hij => by cases hij) _ _ _ hys (plains_rep _ _ hx)
          obtain ⟨g, tmps, assign, body, r1, r2⟩ := Amb.yield hok hgo j2 hs.inv hv
          refine ⟨fun _ _ => trivial, ?_⟩
          rw [Oper.semAt_eq _ _ _ (fun c' hc' => by rw [ho] at hc'; cases hc')]
          have run : (execOp a.eval o).run P w = .ok (.round Amb.l g tmps assign body) w := by
            unfold execOp
            rw [ho]
            simp only [Sem.run_bind, resolve, hcal, f2, Deferred.ofValue, Sem.run_pure, Result.andThen_ok, invoke]
            rw [← r1]
            congr 2
            apply Array.ext'
            simp
          rw [run, Oper.uponIn_round]
          refine ⟨fun hh => by simp [Fr, Fence.wide] at hh, RoundIn.mono (F := Fr r) (n := 0) r2 ?_⟩
          rintro e w' ⟨G', B', rfl, q1, q2, q3, ⟨q4, q5, q6, q7⟩, q8, q9, q10⟩
          have hw : ∀ p ∈ [(id, Ob.hist (xs ++ [ys]))], p.1 < H.length := fun p hp => by simp at hp; subst hp; exact lt_of_get hH
          have hst := hs.stepM (G' := G') (w' := w') (φ' := histLoc φ id B') (H' := fun i => if i = id then some (.hist (xs ++ [ys])) else hp H i) (fun i => i = id) q3 histLoc_le (fun i hi n => histLoc_ne hi n) q4 q5 q6 q7
            (fun k hk hn hm => q10 k hk (fun hB => hn id _ rfl hH hB) hm) (fun i hi => if_neg hi) q2
            (fun i ob hi h1 => by
              subst hi; simp at h1; subst h1
              refine ⟨⟨cc, by rw [histLoc_0]; exact f1⟩, ?_⟩
              have e : (fun k => (histLoc φ i B' i (k + 1)).isSome = true) = B' := by
                funext k
                exact propext ((histLoc_B k).trans ⟨fun h => h.elim (q8 k) id, .inr⟩)
              rw [e]; exact q1)
            (fun i j ob1 ob2 k hi hj hij => absurd (hi.trans hj.symm) hij)
            (fun i ob k hi h1 h2 => by
              subst hi; simp at h1; subst h1
              rcases (histLoc_B k).1 h2 with h3 | h3
              · exact .inl ⟨i, _, rfl, hH, h3⟩
              · rcases q9 k h3 with h4 | h4
                · exact .inl ⟨i, _, rfl, hH, h4⟩
                · exact .inr h4)
            (fun i hi h1 => by subst hi; simp at h1)
          have hupd := upd_hp H ⟨.d (.bool (Amb.go (xs ++ [ys]))), [], [(id, .hist (xs ++ [ys]))], []⟩ hw
          rw [upd_one] at hupd
          rw [hupd] at hst
          exact hK _ _ G' w' _ hK1 hst.1 hst.2 rfl
        · exact h.elim
      · exact h.elim
    · exact h.elim
  · exact h.elim
theorem callR_sem {c : Call} (ho : o.op = .call c) (h : callR P ρ H c K) : TriS P o ρ H K := by
  unfold callR at h
  split at h
  · rename_i g zs hargs
    obtain ⟨ids, ys, hh, h1, h2, h3, hc⟩ := lendE_out h
    intro r a G w φ Kc Q hs hr hK
    refine op_in (fun c' hc' => by rw [ho] at hc'; cases hc') ?_
    obtain ⟨g1, g2⟩ := obsAt_get h2
    have hlt : ∀ i ∈ ids, i < H.length := fun i hi => by
      obtain ⟨k, hk⟩ := List.getElem?_of_mem hi
      obtain ⟨ob, _, h4, _⟩ := g2 k i hk
      exact lt_of_get h4
    obtain ⟨vs, v1, v2⟩ := fnArgs_run (P := P) ho hargs hr hc.1 w
    unfold Oper.wp
    rw [v2, Oper.upon_enter]
    have hls := lent_sit (H := H) hs h3 (fun i _ => rfl) h2
    refine (hc.2 G w (lentLoc φ ids) vs hls (rens_rep (lent_moves φ ids) _ _ _ h1 v1)).mono fun e w' ⟨v, r', h'', G', φ', e1, hb, e4, e5, e6, e7⟩ => ?_
    subst e1
    replace hb : backE ids H.length r' h'' K := hb
    unfold backE at hb
    split at hb
    · rename_i x obs hx hobs
      obtain ⟨hlen, hb⟩ := condP_out hb
      obtain ⟨q1, q2, q3⟩ := call_back (x := x) hs h3 hlt (fun i _ => rfl) h2 e5 e6 e4 hobs (fun i h4 h5 => List.getElem?_eq_none h4)
      have hw : ∀ p ∈ ids.zip obs, p.1 < H.length := fun p hp => hlt _ (List.of_mem_zip hp).1
      rw [upd_hp H ⟨x, [], ids.zip obs, obs.drop ids.length⟩ hw] at q1 q2
      exact hK _ v _ _ _ hb q1 q2 (V.ren_rep q3 _ _ _ hx e7)
    · exact hb.elim
  · exact callY_sem ho h
theorem toList1 {α : Type} {A : Array α} {l : List α} (h : A.toList = l) : A = l.toArray := by rw [← h]
theorem popB_sem {c : Call} {b : Builtin} (htt : TTok P tt) (ho : o.op = .call c) (hb : c.callee = .builtin b) (h : popB tt ρ H b c.args.toList c.argTypes.toList K) : ∃ e, K e ∧ Tri P o ρ H e := by
  obtain ⟨cal, args, tys⟩ := c
  simp only at hb
  subst hb
  unfold popB at h
  split at h
  · rename_i x t h1 h2
    obtain ⟨X, hX, h⟩ := ev1_out h
    simp only at h1 h2
    rw [toList1 h1, toList1 h2] at ho
    exact pLen_sem htt ho hX h
  · rename_i x y t u h1 h2
    obtain ⟨X, Y, hX, hY, h⟩ := ev2_out h
    simp only at h1 h2
    rw [toList1 h1, toList1 h2] at ho
    rcases appB_out h with h | h
    · exact pApp_sem htt ho hX hY h
    · exact pAppArr_sem htt ho hX hY h
  · obtain ⟨X, hX, h⟩ := evsP_out h
    exact pMM_sem (mx := true) ho hX h
  · obtain ⟨X, hX, h⟩ := evsP_out h
    exact pMM_sem (mx := false) ho hX h
  · rename_i x y t u h1 h2
    obtain ⟨X, Y, hX, hY, h⟩ := ev2_out h
    simp only at h1 h2
    rw [toList1 h1, toList1 h2] at ho
    exact pCopy_sem htt ho hX hY h
  · exact h.elim
theorem pPick_sem {c x y : Operand} {C : V} (ho : o.op = .pick c x y) (hc : ev ρ c = some C) (h : pPick C (ev ρ x) (ev ρ y) K) : ∃ e, K e ∧ Tri P o ρ H e := by
  unfold pPick at h
  split at h
  · rename_i b
    have hcm : c ∈ o.op.operands := by rw [ho]; simp [Op.operands]
    have hxm : x ∈ o.op.operands := by rw [ho]; simp [Op.operands]
    have hym : y ∈ o.op.operands := by rw [ho]; simp [Op.operands]
    rcases brP_out h with ⟨rfl, h⟩ | ⟨rfl, h⟩
    · cases hX : ev ρ x with
      | none => rw [hX] at h; exact h.elim
      | some X =>
        rw [hX] at h
        refine kv_sem h fun a G w φ hi hr => ⟨a.eval x, ?_, hr x X hxm hX⟩
        have ec : a.eval c = .bool true := hr c _ hcm hc
        unfold execOp
        rw [ho]
        simp [ec, asBool]
    · cases hY : ev ρ y with
      | none => rw [hY] at h; exact h.elim
      | some Y =>
        rw [hY] at h
        refine kv_sem h fun a G w φ hi hr => ⟨a.eval y, ?_, hr y Y hym hY⟩
        have ec : a.eval c = .bool false := hr c _ hcm hc
        unfold execOp
        rw [ho]
        simp [ec, asBool]
  · exact h.elim
theorem pUpA_sem (htt : TTok P tt) {t : TypeId} {x y z : Operand} {X Y Z : V} (ho : o.op = .mapUpdate t x y z ∨ o.op = .insert t x y z) (hx : ev ρ x = some X) (hy : ev ρ y = some Y) (hz : ev ρ z = some Z) (h : pUpA P tt t X Y Z H K) : ∃ e, K e ∧ Tri P o ρ H e := by
  unfold pUpA at h
  split at h
  · split at h
    · rename_i hH; exact pSetUp_sem htt ho hx hH hy hz h
    · exact pMapUp_sem htt ho hx hy hz h
  · exact pUpM_sem htt ho hx hy hz h
  · exact pMapUp_sem htt ho hx hy hz h
theorem popE_sem (htt : TTok P tt) (h : popE P tt ρ H o.op K) : ∃ e, K e ∧ Tri P o ρ H e := by
  generalize hop : o.op = q at h
  unfold popE at h
  split at h
  case h_1 => obtain ⟨X, hX, h⟩ := ev1_out h; exact pMove_sem (.inl hop) hX h
  case h_2 => obtain ⟨X, hX, h⟩ := ev1_out h; exact pMove_sem (.inr hop) hX h
  case h_3 => exact pAlloc_sem htt hop h
  case h_4 => obtain ⟨X, hX, h⟩ := ev1_out h; exact pBox_sem hop hX h
  case h_5 => obtain ⟨X, hX, h⟩ := evPartsP_out h; exact pBuild_sem htt hop hX h
  case h_6 => obtain ⟨X, hX, h⟩ := evPartsP_out h; exact pBS_sem htt hop hX h
  case h_7 => obtain ⟨X, hX, h⟩ := ev1_out h; exact pLoad_sem htt hop hX h
  case h_8 => obtain ⟨X, Y, hX, hY, h⟩ := ev2_out h; exact pStore_sem htt hop hX hY h
  case h_9 => obtain ⟨X, hX, h⟩ := ev1_out h; exact pNil_sem hop hX h
  case h_10 =>
    obtain ⟨X, Y, hX, hY, h⟩ := ev2_out h
    split at h
    · exact pEqNil_sem hop hX h
    · exact pBin_sem htt hop hX hY h
  case h_11 => obtain ⟨X, hX, h⟩ := ev1_out h; exact pUn_sem hop hX h
  case h_12 => obtain ⟨X, hX, h⟩ := ev1_out h; exact pPick_sem hop hX h
  case h_13 => obtain ⟨X, hX, h⟩ := ev1_out h; exact pConvB_sem htt hop hX h
  case h_14 =>
    obtain ⟨X, hX, h⟩ := evsP_out h
    obtain ⟨Y, hY, h⟩ := evsP_out h
    exact pFn_sem hop hX hY h
  case h_15 => obtain ⟨X, Y, hX, hY, h⟩ := ev2_out h; exact pMake_sem htt hop hX hY h
  case h_16 =>
    obtain ⟨X, hX, h⟩ := ev1_out h
    split at h
    · rename_i h1 h2; exact pCut_sem htt hop hX h1 h2 h
    · exact h.elim
  case h_17 => obtain ⟨X, hX, h⟩ := ev1_out h; exact pFA_sem htt hop hX h
  case h_18 => obtain ⟨X, hX, h⟩ := ev1_out h; exact pField_sem htt hop hX h
  case h_19 => obtain ⟨X, Y, hX, hY, h⟩ := ev2_out h; exact pIA_sem htt hop hX hY h
  case h_20 => obtain ⟨X, Y, hX, hY, h⟩ := ev2_out h; exact pIx_sem htt hop hX hY h
  case h_21 => obtain ⟨X, hX, h⟩ := ev1_out h; exact pExt_sem hop hX h
  case h_22 =>
    split at h
    · rename_i b hb; exact popB_sem htt hop hb h
    · exact callE_sem hop h
  case h_23 =>
    split at h
    · split at h
      · exact pMkSet_sem htt hop h
      · exact pMkMap_sem htt hop trivial h
    · obtain ⟨X, hX, h⟩ := ev1_out h; exact pMkMap_sem htt hop hX h
  case h_24 =>
    obtain ⟨X, Y, hX, hY, h⟩ := ev2_out h
    split at h
    · exact pLookS_sem htt hop hX hY h
    · exact pLookM_sem htt hop hX hY h
    · rcases h with h | h | h
      · exact pLook_sem htt hop hX hY h
      · exact pLookI_sem htt hop hX hY h
      · exact pLookIS_sem htt hop hX hY h
  case h_25 => obtain ⟨X, Y, hX, hY, h⟩ := ev2_out h; obtain ⟨Z, hZ, h⟩ := ev1_out h; exact pUpA_sem htt (.inl hop) hX hY hZ h
  case h_26 => obtain ⟨X, Y, hX, hY, h⟩ := ev2_out h; obtain ⟨Z, hZ, h⟩ := ev1_out h; exact pUpA_sem htt (.inr hop) hX hY hZ h
  case h_27 =>
    obtain ⟨X, hX, h⟩ := ev1_out h
    split at h
    · exact pRangeS_sem htt hop hX h
    · exact h.elim
  case h_28 => obtain ⟨X, hX, h⟩ := ev1_out h; exact pEntryS_sem hop hX h
  case h_29 => obtain ⟨X, hX, h⟩ := ev1_out h; exact pIface_sem hop hX h
  case h_30 => obtain ⟨X, hX, h⟩ := ev1_out h; exact pAssert_sem htt hop hX h
  case h_31 => exact h.elim
/-- The next number, whichever. -/
def pNextS (X : V) (H : List Ob) (K : Eff → Prop) : Prop := match X with
  | .ptr id 0 => match H[id]? with
    | some (.iter xs seen) => (∀ k, k ∈ xs → k ∉ seen → K ⟨.tup [.d (.bool true), .d (.int .i64 k), .d (.bool true)], [], [(id, .iter xs (k :: seen))], []⟩) ∧ ((∀ k, k ∈ xs → k ∈ seen) → K ⟨.tup [.d (.bool false)], [], [], []⟩)
    | _ => False
  | _ => False
theorem pNextS_sem {x : Operand} {X : V} (ho : o.op = .next x false) (hx : ev ρ x = some X) (h : pNextS X H K) : TriS P o ρ H K := by
  have hox : x ∈ o.op.operands := by rw [ho]; simp [Op.operands]
  unfold pNextS at h
  split at h
  · rename_i id
    split at h
    · rename_i xs seen hH
      obtain ⟨hgo, hend⟩ := h
      have hid := lt_of_get hH
      intro r a G w φ Kc Q hs hr hK
      refine op_in (fun c' hc' => by rw [ho] at hc'; cases hc') ?_
      obtain ⟨b, c, g1, g2⟩ := hr x _ hox hx
      obtain ⟨b', c', q1, q2, q3⟩ := hs.holds id _ hH
      rw [g1] at q1; injection q1 with q1; injection q1 with q1 q1'; injection q1 with q1; injection q1 with q1; subst q1
      have fin0 : (Instr.next (.pointer (some ⟨b, 0, none⟩)) false o.type).run P w = .ok (.tuple #[.bool false]) w → (∀ k, k ∈ xs → k ∈ seen) → o.wp P a w Kc Q := by
        intro h1 h2
        have run : (execOp a.eval o).run P w = .ok (.value (.tuple #[.bool false])) w := by
          unfold execOp
          rw [ho]
          simp only [Sem.run_bind, g2, h1, Result.andThen_ok, Sem.run_pure]
        unfold Oper.wp
        rw [run, Oper.upon_value]
        refine hK _ _ G w φ (hend h2) ?_ ?_ ⟨[.bool false], rfl, ⟨_, _, rfl, rfl, rfl⟩⟩
        · exact hs
        · exact Goes.refl _ _ _ _
      rcases q3 with ⟨rfl, rfl, s, sa, n, e1⟩ | ⟨bm, l, bs, clk, sa, e1, e2, e3, e4, e5⟩
      · refine fin0 ?_ (by simp)
        simp only [Instr.next, getObj, Sem.run_bind, Sem.run, e1, Result.andThen]
        rfl
      · obtain ⟨es, f1, f2⟩ := iter_map hs.inv e2 e3
        obtain ⟨i1, i2⟩ := iter_get e4 e5
        have hold : ∀ e ∈ es.toList, e.born < clk := fun e he => by
          obtain ⟨p, k, p1, p2, _⟩ := f2.get he
          exact f2.lt _ (List.mem_of_getElem? p2)
        rcases run_next_at (P := P) w o.type b bm clk clk sa es clk e1 f1 hold (Nat.le_refl _) with ⟨h1, h2⟩ | ⟨e, he, w1, hw1, h2⟩
        · refine fin0 h2 fun k hk => ?_
          obtain ⟨p, hp⟩ := List.getElem?_of_mem (e3.mem_iff.2 hk)
          have hpb : p < bs.length := by rw [← f2.len]; exact lt_of_get hp
          have hin : ({ key := .int .i64 k, val := .bool true, born := bs[p] } : MapEntry) ∈ es.toList := List.mem_of_getElem? (by rw [f2.es]; exact setEs_get hp (List.getElem?_eq_getElem hpb))
          have hsa : bs[p] ∈ sa.toList := by
            refine Classical.byContradiction fun hn => ?_
            have : ({ key := .int .i64 k, val := .bool true, born := bs[p] } : MapEntry) ∈ (leftOf es sa).toList := by
              unfold leftOf
              simp only [Array.toList_filter, List.mem_filter]
              exact ⟨hin, by simpa using hn⟩
            have hl : (leftOf es sa).toList = [] := List.length_eq_zero_iff.1 (by simpa using h1)
            rw [hl] at this; cases this
          obtain ⟨p', k', j1, j2, j3⟩ := i1 _ hsa
          have := nodup_at f2.bnd (List.getElem?_eq_getElem hpb) j3
          subst this
          rw [hp] at j2; injection j2 with j2; subst j2
          exact j1
        · have he' : e ∈ es.toList ∧ e.born ∉ sa.toList := by
            unfold leftOf at he
            simp only [Array.toList_filter, List.mem_filter] at he
            exact ⟨he.1, by simpa using he.2⟩
          obtain ⟨p, k, p1, p2, p3, p4⟩ := f2.get he'.1
          have hks : k ∉ seen := fun hm => by
            obtain ⟨p', n, j1, j2, j3⟩ := i2 k hm
            have := nodup_at f2.nd p1 j2
            subst this
            rw [p2] at j3; injection j3 with j3; subst j3
            exact he'.2 j1
          have hkx : k ∈ xs := e3.mem_iff.1 (List.mem_of_getElem? p1)
          have hs1 : Sit G w1 φ (hp H) ∧ Goes G w φ (hp H) G w1 φ (hp H) ∧ w1.heap = w.heap := by
            rcases hw1 with rfl | rfl
            · exact ⟨hs, Goes.refl _ _ _ _, rfl⟩
            · exact ⟨hs.drew, Goes.drew _ _ _ _, rfl⟩
          obtain ⟨s1, s2, s3⟩ := hs1
          have hlt : b < w1.heap.size := by rw [s3]; exact (Array.getElem?_eq_some_iff.1 e1).1
          have hw := s1.objWrite id b _ (.iter xs (k :: seen)) (.mapIter (some bm) clk (sa.push e.born) clk) (fun cs T fr hc => by rw [s3, e1] at hc; cases hc) q2 hH (by simp [Owns, own, g1])
            ⟨b, c, g1, q2, .inr ⟨bm, l, bs, clk, sa.push e.born, World.putObj_heap_same hlt, e2, e3, by simp [e4], fun i k' n h3 h4 => by
              rw [Array.toList_push, List.reverse_append] at h4
              cases i with
              | zero =>
                simp at h3 h4
                subst h3; subst h4
                exact ⟨p, p1, p2⟩
              | succ i => exact e5 i k' n (by simpa using h3) (by simpa using h4)⟩⟩ (fun b' hb' => by simp [Owns, own, g1] at hb'; exact hb'.symm)
          have run : (execOp a.eval o).run P w = .ok (.value (.tuple #[.bool true, .int .i64 k, .bool true])) (w1.putObj b (.mapIter (some bm) clk (sa.push e.born) clk)) := by
            unfold execOp
            rw [ho]
            rw [p3, p4] at h2
            simp only [Sem.run_bind, g2, h2, Result.andThen_ok, Sem.run_pure]
            rfl
          unfold Oper.wp
          rw [run, Oper.upon_value]
          have hwr : ∀ q ∈ [(id, Ob.iter xs (k :: seen))], q.1 < H.length := fun q hq => by simp at hq; subst hq; exact hid
          have hupd := upd_hp H ⟨.tup [.d (.bool true), .d (.int .i64 k), .d (.bool true)], [], [(id, .iter xs (k :: seen))], []⟩ hwr
          rw [upd_one] at hupd
          have hw1' := hw.1
          have hw2' := s2.trans hw.2
          rw [hupd] at hw1' hw2'
          exact hK _ _ G _ φ (hgo k hkx hks) hw1' hw2' ⟨[.bool true, .int .i64 k, .bool true], rfl, ⟨_, _, rfl, rfl, _, _, rfl, rfl, _, _, rfl, rfl, rfl⟩⟩
    · exact h.elim
  · exact h.elim
end
end Go.Proofs.YtblnfodnkacbbaaGreatDoor.Q

namespace Go.Proofs.YtblnfodnkacbbaaGreatDoor.Q
variable [Amb]
section
variable {P : Program} {tt : TT} {K : Env → List Ob → Prop}

/-! ### guards -/
def gdP (ops : List Oper) (o : Oper) (ρ : Env) (run skip : Prop) : Prop :=
  match o.guard with
  | none => run
  | some (g, want) => match ops[g]? with
    | some p => match p.dst with
      | some t => match lk ρ t with
        | some (.d (.bool b)) => match want with
          | true => brP b run skip
          | false => brP b skip run
        | some (.tup []) => skip
        | _ => False
      | none => False
    | none => False
theorem gdP_out {ops : List Oper} {o : Oper} {ρ : Env} {run skip : Prop} (h : gdP ops o ρ run skip) : ∃ r : Bool, (if r then run else skip) ∧ ∀ (G : Imm) (φ : Loc) (a : Act),
    (∀ t x, t ∈ reads ops o → lk ρ t = some x → ∃ v, a.tmps[t]? = some v ∧ x.rep G φ v) → Region.wanted o (yielded ops.toArray a.tmps) = r := by
  unfold gdP at h
  split at h
  · rename_i hg; exact ⟨true, h, fun G φ a _ => by simp [Region.wanted, hg]⟩
  · rename_i g want hg
    split at h
    · rename_i p hp
      split at h
      · rename_i t ht
        have hmem : t ∈ reads ops o := by
          unfold reads
          rw [hg]
          simp [hp, ht]
        have key : ∀ (G : Imm) (φ : Loc) (a : Act), Region.wanted o (yielded ops.toArray a.tmps) = ((match a.tmps[t]? with | some (.bool b) => some b | _ => none) == some want) := by
          intro G φ a
          simp only [Region.wanted, hg, yielded, List.getElem?_toArray, hp, Option.bind_some, ht]
          cases a.tmps[t]? with
          | none => rfl
          | some v => cases v <;> rfl
        split at h
        · rename_i b hb
          have fin : ∀ (r : Bool), (if r then run else skip) → r = (b == want) → ∃ r : Bool, (if r then run else skip) ∧ ∀ (G : Imm) (φ : Loc) (a : Act), (∀ t x, t ∈ reads ops o → lk ρ t = some x → ∃ v, a.tmps[t]? = some v ∧ x.rep G φ v) → Region.wanted o (yielded ops.toArray a.tmps) = r := by
            intro r hr hrb
            refine ⟨r, hr, fun G φ a hh => ?_⟩
            obtain ⟨v, h1, h2⟩ := hh t _ hmem hb
            have h2 : v = .bool b := h2
            rw [key G φ a, h1, h2, hrb]
            rfl
          cases want with
          | true =>
            rcases brP_out h with ⟨hb, h⟩ | ⟨hb, h⟩
            · exact fin true h (by rw [hb]; rfl)
            · exact fin false h (by rw [hb]; rfl)
          | false =>
            rcases brP_out h with ⟨hb, h⟩ | ⟨hb, h⟩
            · exact fin false h (by rw [hb]; rfl)
            · exact fin true h (by rw [hb]; rfl)
        · rename_i hb
          refine ⟨false, h, fun G φ a hh => ?_⟩
          obtain ⟨v, h1, us, h2, h3⟩ := hh t _ hmem hb
          rw [key G φ a, h1, h2]
          rfl
        · exact h.elim
      · exact h.elim
    · exact h.elim
def dstB (o : Oper) (n : Nat) : Bool := match o.dst with
  | some t => Nat.blt t n
  | none => true

/-! ### values, told at once (so that what follows does not work them out again and again) -/
def fN (n : Nat) (K : Nat → Prop) : Prop := @Nat.rec (fun _ => Nat → Prop) (fun acc => K acc) (fun _ ih acc => ih (acc + 1)) n 0
theorem fN_go (K : Nat → Prop) : ∀ (n acc : Nat), @Nat.rec (fun _ => Nat → Prop) (fun acc => K acc) (fun _ ih acc => ih (acc + 1)) n acc = K (acc + n)
  | 0, acc => rfl
  | n + 1, acc => (fN_go K n (acc + 1)).trans (by rw [Nat.add_right_comm, Nat.add_assoc])
theorem fN_eq (n : Nat) (K : Nat → Prop) : fN n K = K n := (fN_go K n 0).trans (by rw [Nat.zero_add])
def fNs (l : List Nat) : (List Nat → Prop) → Prop := @List.rec Nat (fun _ => (List Nat → Prop) → Prop) (fun K => K []) (fun a _ ih K => fN a fun a' => ih fun t => K (a' :: t)) l
theorem fNs_eq : ∀ (l : List Nat) (K : List Nat → Prop), fNs l K = K l
  | [], K => rfl
  | a :: t, K => by
    show fN a (fun a' => fNs t fun t' => K (a' :: t')) = _
    rw [fN_eq, fNs_eq t]
def fD (x : D) (K : D → Prop) : Prop := match x with
  | .int k n => K (.int k n)
  | .bool b => K (.bool b)
  | .str s => K (.str s)
  | .sl rows => K (.sl rows)
  | .raw v => K (.raw v)
  | .ptr row => K (.ptr row)
  | .fn f a b => K (.fn f a b)
  | .set xs => K (.set xs)
  | .memo t => K (.memo t)
  | .nptr row => K (.nptr row)
theorem fD_eq (x : D) (K : D → Prop) : fD x K = K x := by cases x <;> rfl
/-- One cell. -/
def fC (x : V) (K : V → Prop) : Prop := match x with
  | .d y => fD y fun y => K (.d y)
  | .ptr id off => fN id fun id => fN off fun off => K (.ptr id off)
  | .gsl rows t => fN t fun t => K (.gsl rows t)
  | .arr id off len => fN id fun id => K (.arr id off len)
  | .eptr id i off => fN id fun id => K (.eptr id i off)
  | .map id => fN id fun id => K (.map id)
  | .agg cs => K (.agg cs)
  | .tup vs => K (.tup vs)
  | .iptr row => K (.iptr row)
  | .fsl rows => K (.fsl rows)
  | .vsl rows => K (.vsl rows)
  | .fn f a b => K (.fn f a b)
  | .yld id => fN id fun id => K (.yld id)
  | .lookT id x => fN id fun id => K (.lookT id x)
  | .lookV id x => fN id fun id => K (.lookV id x)
  | .lookB id => fN id fun id => K (.lookB id)
  | .undef => K .undef
theorem fC_eq (x : V) (K : V → Prop) : fC x K = K x := by cases x <;> simp only [fC, fD_eq, fN_eq]
def fCs (l : List V) : (List V → Prop) → Prop := @List.rec V (fun _ => (List V → Prop) → Prop) (fun K => K []) (fun a _ ih K => fC a fun a' => ih fun t => K (a' :: t)) l
theorem fCs_eq : ∀ (l : List V) (K : List V → Prop), fCs l K = K l
  | [], K => rfl
  | a :: t, K => by
    show fC a (fun a' => fCs t fun t' => K (a' :: t')) = _
    rw [fC_eq, fCs_eq t]
def fV (x : V) (K : V → Prop) : Prop := match x with
  | .agg cs => fCs cs fun cs => K (.agg cs)
  | .tup vs => fCs vs fun vs => K (.tup vs)
  | x => fC x K
theorem fV_eq (x : V) (K : V → Prop) : fV x K = K x := by cases x <;> simp only [fV, fC_eq, fCs_eq]
def fOb (x : Ob) (K : Ob → Prop) : Prop := match x with
  | .box cs => fCs cs fun cs => K (.box cs)
  | .tip e n => K (.tip e n)
  | .parr e rows => K (.parr e rows)
  | .hist xs => K (.hist xs)
  | .mp ks vs => fCs ks fun ks => fCs vs fun vs => K (.mp ks vs)
  | .bld T e u s rest => fCs rest fun rest => K (.bld T e u s rest)
  | .iset xs => K (.iset xs)
  | .iter xs seen => K (.iter xs seen)
  | .flag => K .flag
  | .dead => K .dead
theorem fOb_eq (x : Ob) (K : Ob → Prop) : fOb x K = K x := by cases x <;> simp only [fOb, fCs_eq]
def fObs (l : List Ob) : (List Ob → Prop) → Prop := @List.rec Ob (fun _ => (List Ob → Prop) → Prop) (fun K => K []) (fun a _ ih K => fOb a fun a' => ih fun t => K (a' :: t)) l
theorem fObs_eq : ∀ (l : List Ob) (K : List Ob → Prop), fObs l K = K l
  | [], K => rfl
  | a :: t, K => by
    show fOb a (fun a' => fObs t fun t' => K (a' :: t')) = _
    rw [fOb_eq, fObs_eq t]
def putK (ρ : Env) (d : Option Nat) (x : V) (K : Env → Prop) : Prop := match d with
  | some t => fV x fun x => K ((t, x) :: ρ)
  | none => K ρ
theorem putK_eq (ρ : Env) (d : Option Nat) (x : V) (K : Env → Prop) : putK ρ d x K = K (put ρ d x) := by cases d <;> simp only [putK, put, fV_eq]
def nextE (ρ : Env) (H : List Ob) (d : Option Nat) (e : Eff) (K : Env → List Ob → Prop) : Prop := putK ρ d e.x fun ρ' => match e.wr, e.nw with
  | [], [] => K ρ' H
  | wr, nw => fObs (updL H ⟨e.x, e.rd, wr, nw⟩) fun H' => K ρ' H'
theorem nextE_eq (ρ : Env) (H : List Ob) (d : Option Nat) (e : Eff) (K : Env → List Ob → Prop) : nextE ρ H d e K = K (put ρ d e.x) (updL H e) := by
  unfold nextE
  rw [putK_eq]
  obtain ⟨x, rd, wr, nw⟩ := e
  cases wr <;> cases nw <;> simp only [fObs_eq] <;> rfl

/-! ### one behind the other -/
def isCall : Op → Option Call
  | .call c => match c.callee with
    | .builtin _ => none
    | _ => some c
  | _ => none
def popR (P : Program) (tt : TT) (ρ : Env) (H : List Ob) (o : Op) (K : Eff → Prop) : Prop :=
  match isCall o with
  | some c => callR P ρ H c K
  | none => match o with
    | .next x false => ev1 ρ x fun X => pNextS X H K
    | o => popE P tt ρ H o K
theorem popR_sem {o : Oper} {ρ : Env} {H : List Ob} {K : Eff → Prop} (htt : TTok P tt) (h : popR P tt ρ H o.op K) : TriS P o ρ H K := by
  unfold popR at h
  split at h
  · rename_i c hc
    have : o.op = .call c := by
      unfold isCall at hc
      split at hc
      · rename_i c' heq
        split at hc
        · cases hc
        · injection hc with hc; rw [heq, hc]
      · cases hc
    exact callR_sem this h
  · split at h
    · rename_i hop; obtain ⟨X, hX, h⟩ := ev1_out h; exact pNextS_sem hop hX h
    · exact TriS.of (fun c' hc' => by rw [hc'] at h; exact h.elim) (popE_sem htt h)
/-- (By the list's own recursor: what is left of it then looks alike to Lean's elaborator and to its kernel.) -/
def pops (P : Program) (tt : TT) (n : Nat) (ops : List Oper) (l : List Oper) : Env → List Ob → (Env → List Ob → Prop) → Prop :=
  @List.rec Oper (fun _ => Env → List Ob → (Env → List Ob → Prop) → Prop) (fun ρ H K => K ρ H)
    (fun o _ ih ρ H K => condP (dstB o n) (gdP ops o ρ (popR P tt ρ H o.op fun e => nextE ρ H o.dst e fun ρ' H' => ih ρ' H' K) (putK ρ o.dst (.tup []) fun ρ' => ih ρ' H K))) l
theorem pops_cons (P : Program) (tt : TT) (n : Nat) (ops : List Oper) (o : Oper) (r : List Oper) (ρ : Env) (H : List Ob) (K : Env → List Ob → Prop) : pops P tt n ops (o :: r) ρ H K =
    condP (dstB o n) (gdP ops o ρ (popR P tt ρ H o.op fun e => pops P tt n ops r (put ρ o.dst e.x) (updL H e) K) (pops P tt n ops r (put ρ o.dst (.tup [])) H K)) := by
  show condP (dstB o n) (gdP ops o ρ (popR P tt ρ H o.op fun e => nextE ρ H o.dst e fun ρ' H' => pops P tt n ops r ρ' H' K) (putK ρ o.dst (.tup []) fun ρ' => pops P tt n ops r ρ' H K)) = _
  simp only [nextE_eq, putK_eq]
/-- The frame and the world as a state says. -/
structure Rep (n : Nat) (G : Imm) (w : World) (φ : Loc) (ρ : Env) (H : List Ob) (a : Act) : Prop where
  sit : Sit G w φ (hp H)
  env : EnvOk G φ ρ a
  size : a.tmps.size = n
theorem put_defers (a : Act) (d : Option Tmp) (v : Value) : (a.put d v).defers = a.defers := by cases d <;> rfl
theorem put_size (a : Act) (d : Option Tmp) (v : Value) : (a.put d v).tmps.size = a.tmps.size := by cases d <;> simp [Act.put]
theorem env_put {G : Imm} {φ : Loc} {ρ : Env} {a : Act} {o : Oper} {n : Nat} {x : V} {v : Value} (h : EnvOk G φ ρ a) (hn : a.tmps.size = n) (hd : dstB o n = true) (hx : x.rep G φ v) : EnvOk G φ (put ρ o.dst x) (a.put o.dst v) := by
  unfold dstB at hd
  cases hdst : o.dst with
  | none => exact h
  | some d =>
    rw [hdst] at hd
    have hdn : d < n := Nat.le_of_ble_eq_true hd
    intro t y hy
    simp only [put, lk_put] at hy
    split at hy
    · rename_i hdt
      injection hy with hy; subst hy; subst hdt
      exact ⟨v, by simp [Act.put, hn, hdn], hx⟩
    · rename_i hdt
      obtain ⟨u, h1, h2⟩ := h t y hy
      exact ⟨u, by simp [Act.put, Array.getElem?_setIfInBounds_ne hdt, h1], h2⟩
theorem opRep_of {G : Imm} {φ : Loc} {ρ : Env} {a : Act} (h : EnvOk G φ ρ a) (o : Oper) : OpRep o ρ a G φ := fun x X _ hX => ev_rep h hX
theorem pops_sem (htt : TTok P tt) {n : Nat} (r : Option Nat) {ops : List Oper} {Q : Exit → Act → World → Prop} : ∀ (l : List Oper) (ρ : Env) (H : List Ob), pops P tt n ops l ρ H K → ∀ (G0 : Imm) (w0 : World) (φ0 : Loc) (H0 : Hp) (G : Imm) (w : World) (φ : Loc) (a : Act), Rep n G w φ ρ H a → Goes G0 w0 φ0 H0 G w φ (hp H) →
    (∀ ρ' H' G' w' φ' a', K ρ' H' → Rep n G' w' φ' ρ' H' a' → Goes G0 w0 φ0 H0 G' w' φ' (hp H') → a'.defers = a.defers → Q .normal a' w') → wpListIn (Fr r) 0 P ops.toArray Q l a w
  | [], ρ, H, h, G0, w0, φ0, H0, G, w, φ, a, hrep, hgo, hQ => hQ ρ H G w φ a h hrep hgo rfl
  | o :: rest, ρ, H, h, G0, w0, φ0, H0, G, w, φ, a, hrep, hgo, hQ => by
    rw [pops_cons] at h
    obtain ⟨hd, h⟩ := condP_out h
    obtain ⟨b, hb, hw⟩ := gdP_out h
    have hw := hw G φ a fun t x _ hx => hrep.env t x hx
    unfold wpListIn
    cases b with
    | true =>
      rw [if_pos hw]
      refine popR_sem htt hb r a G w φ _ _ hrep.sit (opRep_of hrep.env o) fun e v G' w' φ' hK hs' hg' hx => ?_
      refine pops_sem htt r rest _ _ hK G0 w0 φ0 H0 G' w' φ' (a.put o.dst v) ⟨hs', env_put (hrep.env.mono hg'.le hg'.ple) hrep.size hd hx, by rw [put_size]; exact hrep.size⟩ (hgo.trans hg') (fun ρ1 H1 G1 w1 φ1 a1 q1 q2 q3 q4 => hQ ρ1 H1 G1 w1 φ1 a1 q1 q2 q3 (q4.trans (put_defers _ _ _)))
    | false =>
      rw [if_neg (by rw [hw]; simp)]
      exact ⟨fun _ _ => trivial, pops_sem htt r rest _ _ hb G0 w0 φ0 H0 G w φ (a.put o.dst undef) ⟨hrep.sit, env_put hrep.env hrep.size hd ⟨[], rfl, rfl⟩, by rw [put_size]; exact hrep.size⟩ hgo (fun ρ1 H1 G1 w1 φ1 a1 q1 q2 q3 q4 => hQ ρ1 H1 G1 w1 φ1 a1 q1 q2 q3 (q4.trans (put_defers _ _ _)))⟩

/-! ### in whatever order -/
def newIds (base : Nat) (e : Eff) : List Nat := List.range' base e.nw.length
def wrote (base : Nat) (e : Eff) : List Nat := e.wr.map (·.1) ++ newIds base e
def touch (base : Nat) (e : Eff) : List Nat := e.rd ++ wrote base e
structure Fp where
  i : Nat
  t : List Nat
  w : List Nat
def apartB (f g : Fp) : Bool := disjB f.w g.t && disjB g.w f.t
def fpB (ops : List Oper) (fps : List Fp) (g : Fp) : Bool := match g.t with
  | [] => true
  | _ => fps.all fun f => apartB f g || waits ops g.i f.i
def addFp (g : Fp) (fps : List Fp) : List Fp := match g.t with
  | [] => fps
  | _ => g :: fps
theorem touch_nil {base : Nat} {e : Eff} (h : touch base e = []) : wrote base e = [] := (List.append_eq_nil_iff.1 h).2
def pd (P : Program) (tt : TT) (n : Nat) (ops : List Oper) (l : List Oper) : Nat → Env → List Ob → List Fp → (Env → List Ob → Prop) → Prop :=
  @List.rec Oper (fun _ => Nat → Env → List Ob → List Fp → (Env → List Ob → Prop) → Prop) (fun _ ρ H _ K => K ρ H)
    (fun o _ ih j ρ H fps K => condP (dstB o n) (gdP ops o ρ
      (popE P tt ρ H o.op fun e => fNs (touch H.length e) fun t => fNs (wrote H.length e) fun w => condP (fpB ops fps ⟨j, t, w⟩) (nextE ρ H o.dst e fun ρ' H' => ih (j + 1) ρ' H' (addFp ⟨j, t, w⟩ fps) K))
      (putK ρ o.dst (.tup []) fun ρ' => ih (j + 1) ρ' H fps K))) l
theorem pd_cons (P : Program) (tt : TT) (n : Nat) (ops : List Oper) (o : Oper) (r : List Oper) (j : Nat) (ρ : Env) (H : List Ob) (fps : List Fp) (K : Env → List Ob → Prop) : pd P tt n ops (o :: r) j ρ H fps K =
    condP (dstB o n) (gdP ops o ρ
      (popE P tt ρ H o.op fun e => condP (fpB ops fps ⟨j, touch H.length e, wrote H.length e⟩) (pd P tt n ops r (j + 1) (put ρ o.dst e.x) (updL H e) (addFp ⟨j, touch H.length e, wrote H.length e⟩ fps) K))
      (pd P tt n ops r (j + 1) (put ρ o.dst (.tup [])) H fps K)) := by
  show condP (dstB o n) (gdP ops o ρ
      (popE P tt ρ H o.op fun e => fNs (touch H.length e) fun t => fNs (wrote H.length e) fun w => condP (fpB ops fps ⟨j, t, w⟩) (nextE ρ H o.dst e fun ρ' H' => pd P tt n ops r (j + 1) ρ' H' (addFp ⟨j, t, w⟩ fps) K))
      (putK ρ o.dst (.tup []) fun ρ' => pd P tt n ops r (j + 1) ρ' H fps K)) = _
  simp only [nextE_eq, putK_eq, fNs_eq]
structure Stp where
  ρ : Env
  H : List Ob
  e : Option Eff
def Stp.x (s : Stp) : V := match s.e with
  | some e => e.x
  | none => .tup []
def Stp.fp (s : Stp) (j : Nat) : Fp := match s.e with
  | some e => ⟨j, touch s.H.length e, wrote s.H.length e⟩
  | none => ⟨j, [], []⟩
structure StpOk (P : Program) (n : Nat) (ops : List Oper) (o : Oper) (s s' : Stp) : Prop where
  dst : dstB o n = true
  gd : ∀ (G : Imm) (φ : Loc) (a : Act), (∀ t x, t ∈ reads ops o → lk s.ρ t = some x → ∃ v, a.tmps[t]? = some v ∧ x.rep G φ v) → Region.wanted o (yielded ops.toArray a.tmps) = s.e.isSome
  tri : ∀ e, s.e = some e → Tri P o s.ρ s.H e
  ρ : s'.ρ = put s.ρ o.dst s.x
  H : s'.H = match s.e with | some e => updL s.H e | none => s.H
theorem pd_plan (htt : TTok P tt) {n : Nat} {ops : List Oper} : ∀ (l : List Oper) (j : Nat) (ρ : Env) (H : List Ob) (fps : List Fp), pd P tt n ops l j ρ H fps K →
    ∃ S : Nat → Stp, (S j).ρ = ρ ∧ (S j).H = H ∧ (∀ m o, l[m]? = some o → StpOk P n ops o (S (j + m)) (S (j + m + 1))) ∧
      (∀ m, m < l.length → ∀ f ∈ fps, apartB f ((S (j + m)).fp (j + m)) = true ∨ waits ops (j + m) f.i = true) ∧
      (∀ m m', m < m' → m' < l.length → apartB ((S (j + m)).fp (j + m)) ((S (j + m')).fp (j + m')) = true ∨ waits ops (j + m') (j + m) = true) ∧
      K (S (j + l.length)).ρ (S (j + l.length)).H
  | [], j, ρ, H, fps, h => ⟨fun _ => ⟨ρ, H, none⟩, rfl, rfl, by simp, by simp, by simp, h⟩
  | o :: r, j, ρ, H, fps, h => by
    rw [pd_cons] at h
    obtain ⟨hd, h⟩ := condP_out h
    obtain ⟨b, hb, hw⟩ := gdP_out h
    have glue : ∀ (e : Option Eff) (fps' : List Fp) (S : Nat → Stp), (∀ f ∈ fps, f ∈ fps') → e.isSome = b → (∀ e', e = some e' → Tri P o ρ H e') → (S (j + 1)).ρ = put ρ o.dst (Stp.x ⟨ρ, H, e⟩) → (S (j + 1)).H = (match e with | some e => updL H e | none => H) →
        (∀ f ∈ fps, apartB f (Stp.fp ⟨ρ, H, e⟩ j) = true ∨ waits ops j f.i = true) → (apartB (Stp.fp ⟨ρ, H, e⟩ j) ⟨0, [], []⟩ = true) →
        (∀ (g : Fp), apartB (Stp.fp ⟨ρ, H, e⟩ j) g = true ∨ Stp.fp ⟨ρ, H, e⟩ j ∈ fps') →
        (∀ m o, r[m]? = some o → StpOk P n ops o (S (j + 1 + m)) (S (j + 1 + m + 1))) →
        (∀ m, m < r.length → ∀ f ∈ fps', apartB f ((S (j + 1 + m)).fp (j + 1 + m)) = true ∨ waits ops (j + 1 + m) f.i = true) →
        (∀ m m', m < m' → m' < r.length → apartB ((S (j + 1 + m)).fp (j + 1 + m)) ((S (j + 1 + m')).fp (j + 1 + m')) = true ∨ waits ops (j + 1 + m') (j + 1 + m) = true) →
        K (S (j + 1 + r.length)).ρ (S (j + 1 + r.length)).H → ∃ S : Nat → Stp, (S j).ρ = ρ ∧ (S j).H = H ∧ (∀ m o', (o :: r)[m]? = some o' → StpOk P n ops o' (S (j + m)) (S (j + m + 1))) ∧
      (∀ m, m < (o :: r).length → ∀ f ∈ fps, apartB f ((S (j + m)).fp (j + m)) = true ∨ waits ops (j + m) f.i = true) ∧
      (∀ m m', m < m' → m' < (o :: r).length → apartB ((S (j + m)).fp (j + m)) ((S (j + m')).fp (j + m')) = true ∨ waits ops (j + m') (j + m) = true) ∧
      K (S (j + (o :: r).length)).ρ (S (j + (o :: r).length)).H := by
      intro e fps' S hsub he htri h1 h2 hf0 _ hin h3 h4 h5 h6
      have hS : ∀ k, k ≠ j → (fun k => if k = j then (⟨ρ, H, e⟩ : Stp) else S k) k = S k := fun k hk => if_neg hk
      have hSj : (fun k => if k = j then (⟨ρ, H, e⟩ : Stp) else S k) j = ⟨ρ, H, e⟩ := if_pos rfl
      refine ⟨fun k => if k = j then ⟨ρ, H, e⟩ else S k, by rw [hSj], by rw [hSj], ?_, ?_, ?_, ?_⟩
      · intro m o' hm
        cases m with
        | zero =>
          simp at hm; subst hm
          rw [show (fun k => if k = j then (⟨ρ, H, e⟩ : Stp) else S k) (j + 0) = ⟨ρ, H, e⟩ from hSj, show (fun k => if k = j then (⟨ρ, H, e⟩ : Stp) else S k) (j + 0 + 1) = S (j + 1) from hS _ (by omega)]
          exact ⟨hd, fun G φ a hh => by rw [hw G φ a hh, he], htri, h1, h2⟩
        | succ m =>
          rw [show (fun k => if k = j then (⟨ρ, H, e⟩ : Stp) else S k) (j + (m + 1)) = S (j + 1 + m) by rw [hS _ (by omega)]; congr 1; omega, show (fun k => if k = j then (⟨ρ, H, e⟩ : Stp) else S k) (j + (m + 1) + 1) = S (j + 1 + m + 1) by rw [hS _ (by omega)]; congr 1; omega]
          exact h3 m o' (by simpa using hm)
      · intro m hm f hf
        cases m with
        | zero => rw [show (fun k => if k = j then (⟨ρ, H, e⟩ : Stp) else S k) (j + 0) = ⟨ρ, H, e⟩ from hSj]; exact hf0 f hf
        | succ m =>
          rw [show (fun k => if k = j then (⟨ρ, H, e⟩ : Stp) else S k) (j + (m + 1)) = S (j + 1 + m) by rw [hS _ (by omega)]; congr 1; omega, show j + (m + 1) = j + 1 + m by omega]
          exact h4 m (by simpa using hm) f (hsub f hf)
      · intro m m' hmm hm'
        obtain ⟨k, rfl⟩ : ∃ k, m' = k + 1 := ⟨m' - 1, by omega⟩
        rw [show (fun k => if k = j then (⟨ρ, H, e⟩ : Stp) else S k) (j + (k + 1)) = S (j + 1 + k) by rw [hS _ (by omega)]; congr 1; omega, show j + (k + 1) = j + 1 + k by omega]
        cases m with
        | zero =>
          rw [show (fun k => if k = j then (⟨ρ, H, e⟩ : Stp) else S k) (j + 0) = ⟨ρ, H, e⟩ from hSj]
          rcases hin ((S (j + 1 + k)).fp (j + 1 + k)) with h7 | h7
          · exact .inl h7
          · rcases h4 k (by simpa using hm') _ h7 with h8 | h8
            · exact .inl h8
            · right
              have : (Stp.fp ⟨ρ, H, e⟩ j).i = j := by unfold Stp.fp; cases e <;> rfl
              rw [this] at h8
              exact h8
        | succ m =>
          rw [show (fun k => if k = j then (⟨ρ, H, e⟩ : Stp) else S k) (j + (m + 1)) = S (j + 1 + m) by rw [hS _ (by omega)]; congr 1; omega, show j + (m + 1) = j + 1 + m by omega]
          exact h5 m k (by omega) (by simpa using hm')
      · rw [List.length_cons, show (fun k => if k = j then (⟨ρ, H, e⟩ : Stp) else S k) (j + (r.length + 1)) = S (j + 1 + r.length) by rw [hS _ (by omega)]; congr 1; omega]
        exact h6
    cases b with
    | true =>
      obtain ⟨e, hk, ht⟩ := popE_sem htt hb
      obtain ⟨hf, hk⟩ := condP_out hk
      obtain ⟨S, s1, s2, s3, s4, s5, s6⟩ := pd_plan htt r (j + 1) _ _ _ hk
      have nilCase : touch H.length e = [] → ∀ g : Fp, apartB ⟨j, touch H.length e, wrote H.length e⟩ g = true ∧ apartB g ⟨j, touch H.length e, wrote H.length e⟩ = true := by
        intro h0 g
        rw [h0, touch_nil h0]
        simp [apartB, disjB, memB]
      refine glue (some e) (addFp ⟨j, touch H.length e, wrote H.length e⟩ fps) S (fun f hf => ?_) rfl (fun e' he => by injection he with he; subst he; exact ht) s1 s2 (fun f hf' => ?_) (by simp [apartB, disjB, Stp.fp, memB]) (fun g => ?_) s3 s4 s5 s6
      · unfold addFp
        split
        · exact hf
        · exact List.mem_cons_of_mem _ hf
      · unfold fpB at hf
        split at hf
        · rename_i h0; exact .inl (nilCase h0 f).2
        · have := List.all_eq_true.1 hf f hf'
          simp only [Bool.or_eq_true] at this
          exact this
      · unfold addFp
        split
        · rename_i h0; exact .inl (nilCase h0 g).1
        · exact .inr List.mem_cons_self
    | false =>
      obtain ⟨S, s1, s2, s3, s4, s5, s6⟩ := pd_plan htt r (j + 1) _ _ _ hb
      exact glue none fps S (fun f hf => hf) rfl (fun e' he => by cases he) s1 s2 (fun f hf' => .inl (by simp [apartB, disjB, Stp.fp, memB])) (by simp [apartB, disjB, Stp.fp]) (fun g => .inl (by simp [apartB, disjB, Stp.fp, memB])) s3 s4 s5 s6
end
end Go.Proofs.YtblnfodnkacbbaaGreatDoor.Q

namespace Go.Proofs.YtblnfodnkacbbaaGreatDoor.Q
variable [Amb]

def cnt (D : Nat → Bool) : Nat → Nat
  | 0 => 0
  | k + 1 => cnt D k + (if D k then 0 else 1)
theorem also_ne {D : Nat → Bool} {j k : Nat} (h : k ≠ j) : also D j k = D k := if_neg h
theorem also_eq {D : Nat → Bool} {j : Nat} : also D j j = true := if_pos rfl
theorem cnt_also {D : Nat → Bool} {j : Nat} (hj : D j = false) : ∀ n, j < n → cnt (also D j) n + 1 = cnt D n
  | 0, h => by omega
  | n + 1, h => by
    have hsame : ∀ m, m ≤ j → cnt (also D j) m = cnt D m := by
      intro m
      induction m with
      | zero => intro _; rfl
      | succ m ih =>
        intro hm
        simp only [cnt, ih (by omega), also_ne (D := D) (show m ≠ j by omega)]
    by_cases hjn : j = n
    · subst hjn
      simp only [cnt, hsame j (Nat.le_refl _), also_eq, hj]
      simp
    · have ih := cnt_also hj n (by omega)
      simp only [cnt, also_ne (D := D) (show n ≠ j by omega)]
      omega
theorem cnt_zero {D : Nat → Bool} : ∀ n, cnt D n = 0 → ∀ k, k < n → D k = true
  | 0, _, k, hk => by omega
  | n + 1, h, k, hk => by
    simp only [cnt] at h
    by_cases hkn : k = n
    · subst hkn
      cases hD : D k with
      | true => rfl
      | false => rw [hD] at h; simp at h
    · exact cnt_zero n (by omega) k (by omega)
theorem cnt_least {D : Nat → Bool} : ∀ n, 0 < cnt D n → ∃ k, k < n ∧ D k = false ∧ ∀ i, i < k → D i = true
  | 0, h => by simp [cnt] at h
  | n + 1, h => by
    by_cases h0 : 0 < cnt D n
    · obtain ⟨k, h1, h2, h3⟩ := cnt_least n h0
      exact ⟨k, by omega, h2, h3⟩
    · refine ⟨n, Nat.lt_succ_self _, ?_, cnt_zero n (by omega)⟩
      simp only [cnt] at h
      cases hD : D n with
      | false => rfl
      | true => rw [hD] at h; simp at h; omega

/-- What an effect makes of an object. -/
def effAt (base : Nat) (e : Option Eff) (i : Nat) : Option (Option Ob) := match e with
  | none => none
  | some e => match lkO e.wr i with
    | some ob => some (some ob)
    | none => if base ≤ i ∧ i < base + e.nw.length then some e.nw[i - base]? else none
theorem effAt_upd (H : Hp) (base : Nat) (e : Eff) (i : Nat) : upd H base e i = match effAt base (some e) i with | some v => v | none => H i := by
  unfold upd effAt
  dsimp only
  cases lkO e.wr i with
  | some ob => rfl
  | none =>
    dsimp only
    split <;> rfl
theorem effAt_wrote {base : Nat} {e : Eff} {i : Nat} (h : effAt base (some e) i ≠ none) : i ∈ wrote base e := by
  unfold effAt at h
  dsimp only at h
  unfold wrote newIds
  cases hk : lkO e.wr i with
  | some ob => exact List.mem_append_left _ (List.mem_map.2 ⟨_, lkO_mem hk, rfl⟩)
  | none =>
    rw [hk] at h
    dsimp only at h
    split at h
    · rename_i hh
      refine List.mem_append_right _ (List.mem_range'.2 ⟨i - base, by omega, by omega⟩)
    · exact absurd rfl h
/-- Slots by a function. -/
def EnvF (G : Imm) (φ : Loc) (f : Nat → Option V) (a : Act) : Prop := ∀ t x, f t = some x → ∃ v, a.tmps[t]? = some v ∧ x.rep G φ v

section
variable {P : Program} {n : Nat} {ops : List Oper} {S : Nat → Stp}
variable (hS : ∀ m o, ops[m]? = some o → StpOk P n ops o (S m) (S (m + 1)))
def wrR (ops : List Oper) (S : Nat → Stp) (k : Nat) (t : Nat) : Option (Option V) := match ops[k]? with
  | some o => if o.dst = some t then some (some (S k).x) else none
  | none => none
def wrH (S : Nat → Stp) (k : Nat) (i : Nat) : Option (Option Ob) := effAt (S k).H.length (S k).e i
abbrev curR (ops : List Oper) (S : Nat → Stp) (D : Nat → Bool) : Nat → Option V := cur (fun t => lk (S 0).ρ t) (wrR ops S) D ops.length
abbrev curH (ops : List Oper) (S : Nat → Stp) (D : Nat → Bool) : Hp := cur (hp (S 0).H) (wrH S) D ops.length
  include hS
theorem cur_ρ : ∀ k, k ≤ ops.length → ∀ t, cur (fun t => lk (S 0).ρ t) (wrR ops S) (fun _ => true) k t = lk (S k).ρ t
  | 0, _, t => rfl
  | k + 1, h, t => by
    have ho : ops[k]? = some ops[k] := List.getElem?_eq_getElem (by omega)
    rw [(hS k _ ho).ρ]
    simp only [cur, wrR, ho]
    cases hd : ops[k].dst with
    | none => simp [put]; exact cur_ρ k (by omega) t
    | some d =>
      simp only [put, lk_put]
      by_cases hdt : d = t
      · subst hdt; simp
      · rw [if_neg (by simpa using hdt), if_neg hdt]; exact cur_ρ k (by omega) t
theorem cur_Hh : ∀ k, k ≤ ops.length → ∀ i, cur (hp (S 0).H) (wrH S) (fun _ => true) k i = hp (S k).H i
  | 0, _, i => rfl
  | k + 1, h, i => by
    have ho : ops[k]? = some ops[k] := List.getElem?_eq_getElem (by omega)
    have hk := hS k _ ho
    have ih := cur_Hh k (by omega) i
    rw [hk.H]
    simp only [cur, wrH]
    cases he : (S k).e with
    | none => simpa [effAt] using ih
    | some e =>
      have := upd_hp (S k).H e (hk.tri e he).wr
      rw [← this, effAt_upd]
      cases effAt (S k).H.length (some e) i with
      | some v => rfl
      | none => exact ih
theorem H_grows : ∀ m k, k ≤ m → m ≤ ops.length → (S k).H.length ≤ (S m).H.length := by
  intro m
  induction m with
  | zero => intro k hk _; have : k = 0 := by omega
            subst this; exact Nat.le_refl _
  | succ m ih =>
    intro k hk hm
    by_cases hkm : k = m + 1
    · subst hkm; exact Nat.le_refl _
    · refine Nat.le_trans (ih k (by omega) (by omega)) ?_
      have ho : ops[m]? = some ops[m] := List.getElem?_eq_getElem (by omega)
      rw [(hS m _ ho).H]
      split
      · simp [updL_eq, setAll_len]
      · exact Nat.le_refl _
theorem H_next {k : Nat} (hk : k < ops.length) {e : Eff} (he : (S k).e = some e) : (S (k + 1)).H.length = (S k).H.length + e.nw.length := by
  have ho : ops[k]? = some ops[k] := List.getElem?_eq_getElem hk
  rw [(hS k _ ho).H, he]
  simp [updL_eq, setAll_len]

variable (hC : ∀ m m', m < m' → m' < ops.length → apartB ((S m).fp m) ((S m').fp m') = true ∨ waits ops m' m = true) (hB : slotsB ops = true)
  include hC hB
theorem any_sem {r : Option Nat} (hD0 : ∀ (i : Nat) o, ops[i]? = some o → ∀ c, o.op ≠ .defer c) {Q : Exit → Act → World → Prop} {G0 : Imm} {w0 : World} {φ0 : Loc} {H0 : Hp} {df : List Deferred}
    (hQ : ∀ G w φ a, Rep n G w φ (S ops.length).ρ (S ops.length).H a → a.defers = df → Goes G0 w0 φ0 H0 G w φ (hp (S ops.length).H) → Q .normal a w) :
    ∀ (fuel : Nat) (listed : Array Bool) (a : Act) (G : Imm) (w : World) (φ : Loc), listed.size = ops.length → cnt (fun k => listed.getD k true) ops.length = fuel →
      (∀ j o, ops[j]? = some o → listed.getD j true = true → ∀ i ∈ edges o, listed.getD i true = true) →
      Sit G w φ (curH ops S fun k => listed.getD k true) → EnvF G φ (curR ops S fun k => listed.getD k true) a → a.defers = df → a.tmps.size = n → Goes G0 w0 φ0 H0 G w φ (curH ops S fun k => listed.getD k true) →
      wpAnyIn (Fr r) 0 P .any ops.toArray Q fuel listed a w := by
  have hback : ∀ j o, ops[j]? = some o → ∀ i ∈ edges o, i < j := by
    intro j o ho i hi
    have := List.all_eq_true.1 hB j (List.mem_range.2 (lt_of_get ho))
    rw [ho] at this
    simp only [Bool.and_eq_true] at this
    exact Nat.le_of_ble_eq_true (List.all_eq_true.1 this.1 i hi)
  have hslot : ∀ i j p o, i < j → ops[i]? = some p → ops[j]? = some o → (disjB p.dst.toList (o.dst.toList ++ reads ops o) = true ∧ disjB o.dst.toList (reads ops p) = true) ∨ waits ops j i = true := by
    intro i j p o hij hp ho
    have := List.all_eq_true.1 hB j (List.mem_range.2 (lt_of_get ho))
    rw [ho] at this
    simp only [Bool.and_eq_true] at this
    have := List.all_eq_true.1 this.2 i (List.mem_range.2 hij)
    rw [hp] at this
    simp only [Bool.or_eq_true, Bool.and_eq_true] at this
    rcases this with h | h
    · exact .inl h
    · exact .inr h
  have allDone : ∀ (D : Nat → Bool), (∀ k, k < ops.length → D k = true) → (∀ t, curR ops S D t = lk (S ops.length).ρ t) ∧ curH ops S D = hp (S ops.length).H := by
    intro D hD
    refine ⟨fun t => ?_, funext fun i => ?_⟩
    · rw [← cur_ρ hS ops.length (Nat.le_refl _) t]
      exact cur_upto fun k hk h0 => by rw [hD k hk] at h0; cases h0
    · rw [← cur_Hh hS ops.length (Nat.le_refl _) i]
      exact cur_upto fun k hk h0 => by rw [hD k hk] at h0; cases h0
  have mkEdge : ∀ (o : Oper) (i : Nat), i ∈ edges o ↔ ∃ e ∈ o.after, Region.binds .any e = true ∧ e.on = i := by
    intro o i
    unfold edges
    simp only [List.mem_map, List.mem_filter, Array.mem_toList_iff]
    constructor
    · rintro ⟨e, ⟨h1, h2⟩, h3⟩; exact ⟨e, h1, h2, h3⟩
    · rintro ⟨e, h1, h2, h3⟩; exact ⟨e, ⟨h1, h2⟩, h3⟩
  intro fuel
  induction fuel with
  | zero =>
    intro listed a G w φ hsz hcnt hcl hs henv hdef hn hgo
    have hall := cnt_zero ops.length hcnt
    obtain ⟨d1, d2⟩ := allDone _ hall
    refine ⟨?_, hQ G w φ a ⟨by rw [← d2]; exact hs, fun t x hx => henv t x (by rw [d1]; exact hx), hn⟩ hdef (by rw [← d2]; exact hgo)⟩
    rw [List.eq_nil_iff_forall_not_mem]
    intro j hj
    obtain ⟨h1, o, ho, _⟩ := mem_ready.1 hj
    have := hall j (lt_of_get (by simpa using ho))
    rw [this] at h1; cases h1
  | succ fuel ih =>
    intro listed a G w φ hsz hcnt hcl hs henv hdef hn hgo
    generalize hDdef : (fun k => listed.getD k true) = D at *
    have hDk : ∀ k, listed.getD k true = D k := fun k => by rw [← hDdef]
    refine ⟨fun hr => ?_, fun j hj => ?_⟩
    · exfalso
      obtain ⟨k, h1, h2, h3⟩ := cnt_least ops.length (D := D) (by omega)
      have ho : ops[k]? = some ops[k] := List.getElem?_eq_getElem h1
      have : k ∈ Region.ready .any ops.toArray listed := by
        refine mem_ready.2 ⟨by rw [hDk]; exact h2, ops[k], by simpa using ho, fun e he hb => ?_⟩
        have hlt := hback k _ ho e.on ((mkEdge _ _).2 ⟨e, he, hb, rfl⟩)
        have h4 := h3 e.on hlt
        rw [← hDk] at h4
        have hes : e.on < listed.size := by omega
        simpa [Array.getD_eq_getD_getElem?, hes] using h4
      rw [hr] at this; cases this
    · obtain ⟨hj1, o, ho, hj2⟩ := mem_ready.1 hj
      have ho' : ops[j]? = some o := by simpa using ho
      have hjlt := lt_of_get ho'
      have hDj : D j = false := by rw [← hDk]; exact hj1
      have hedge : ∀ i ∈ edges o, D i = true := by
        intro i hi
        obtain ⟨e, he, hb, rfl⟩ := (mkEdge _ _).1 hi
        have h5 := hj2 e he hb
        rw [← hDk]
        have hlt := hback j o ho' _ hi
        have hes : e.on < listed.size := by omega
        simpa [Array.getD_eq_getD_getElem?, hes] using h5
      have hclD : ∀ j o, ops[j]? = some o → D j = true → ∀ i ∈ edges o, D i = true := by
        intro j o h1 h2 i hi
        rw [← hDk]; exact hcl j o h1 (by rw [hDk]; exact h2) i hi
      have hanc : ∀ i, waits ops j i = true → D i = true := anc_closed hclD hback j o ho' hedge
      have hanc2 : ∀ k, k < ops.length → D k = true → waits ops k j ≠ true := by
        intro k hkl hk hm
        have hok : ops[k]? = some ops[k] := List.getElem?_eq_getElem hkl
        have := anc_closed hclD hback k _ hok (hclD k _ hok hk) j hm
        rw [hDj] at this; cases this
      have hst := hS j o ho'
      -- a slot that the operation reads or writes has been written by nobody else than in the text
      have slotNo : ∀ k t, k ≠ j → D k = !decide (k < j) → k < ops.length → (t ∈ reads ops o ∨ o.dst = some t) → wrR ops S k t = none := by
        intro k t hkj hDk' hkl ht
        have hok : ops[k]? = some ops[k] := List.getElem?_eq_getElem hkl
        simp only [wrR, hok]
        by_cases hd : ops[k].dst = some t
        · exfalso
          rcases Nat.lt_or_gt_of_ne hkj with hlt | hgt
          · rcases hslot k j _ _ hlt hok ho' with ⟨h1, _⟩ | h1
            · refine disjB_spec h1 t (by rw [hd]; simp) ?_
              rcases ht with ht | ht
              · exact List.mem_append_right _ ht
              · exact List.mem_append_left _ (by rw [ht]; simp)
            · have := hanc k h1
              rw [hDk'] at this; simp [hlt] at this
          · rcases hslot j k _ _ hgt ho' hok with ⟨h1, h2⟩ | h1
            · rcases ht with ht | ht
              · exact disjB_spec h2 t (by rw [hd]; simp) ht
              · exact disjB_spec h1 t (by rw [ht]; simp) (List.mem_append_left _ (by rw [hd]; simp))
            · exact hanc2 k hkl (by rw [hDk']; simp; omega) h1
        · rw [if_neg hd]
      have slotRead : ∀ t, t ∈ reads ops o → curR ops S D t = lk (S j).ρ t := by
        intro t ht
        rw [← cur_ρ hS j (by omega) t]
        refine cur_read (by omega) (fun k hk h0 => ?_) (fun k h1 h2 h0 => ?_)
        · exact slotNo k t (by omega) (by rw [h0]; simp [hk]) (by omega) (.inl ht)
        · by_cases hkj : k = j
          · subst hkj; rw [hDj] at h0; cases h0
          · exact slotNo k t hkj (by rw [h0]; simp; omega) h2 (.inl ht)
      -- likewise objects
      have objNo : ∀ e k i, (S j).e = some e → k ≠ j → D k = !decide (k < j) → k < ops.length → i ∈ touch (S j).H.length e → wrH S k i = none := by
        intro e k i he hkj hDk' hkl hi
        cases hw : wrH S k i with
        | none => rfl
        | some v =>
          exfalso
          simp only [wrH] at hw
          cases hek : (S k).e with
          | none => rw [hek] at hw; simp [effAt] at hw
          | some e' =>
            rw [hek] at hw
            have hwr := effAt_wrote (base := (S k).H.length) (e := e') (i := i) (by rw [hw]; simp)
            have hfj : (S j).fp j = ⟨j, touch (S j).H.length e, wrote (S j).H.length e⟩ := by simp [Stp.fp, he]
            have hfk : (S k).fp k = ⟨k, touch (S k).H.length e', wrote (S k).H.length e'⟩ := by simp [Stp.fp, hek]
            rcases Nat.lt_or_gt_of_ne hkj with hlt | hgt
            · rcases hC k j hlt hjlt with h1 | h1
              · rw [hfj, hfk] at h1
                simp only [apartB, Bool.and_eq_true] at h1
                exact disjB_spec h1.1 i hwr hi
              · have := hanc k h1
                rw [hDk'] at this; simp [hlt] at this
            · rcases hC j k hgt hkl with h1 | h1
              · rw [hfj, hfk] at h1
                simp only [apartB, Bool.and_eq_true] at h1
                exact disjB_spec h1.2 i hwr hi
              · exact hanc2 k hkl (by rw [hDk']; simp; omega) h1
      have objRead : ∀ e i, (S j).e = some e → i ∈ touch (S j).H.length e → curH ops S D i = hp (S j).H i := by
        intro e i he hi
        rw [← cur_Hh hS j (by omega) i]
        refine cur_read (by omega) (fun k hk h0 => ?_) (fun k h1 h2 h0 => ?_)
        · exact objNo e k i he (by omega) (by rw [h0]; simp [hk]) (by omega) hi
        · by_cases hkj : k = j
          · subst hkj; rw [hDj] at h0; cases h0
          · exact objNo e k i he hkj (by rw [h0]; simp; omega) h2 hi
      have hreadEnv : ∀ t x, t ∈ reads ops o → lk (S j).ρ t = some x → ∃ v, a.tmps[t]? = some v ∧ x.rep G φ v := by
        intro t x ht hx
        exact henv t x (by rw [slotRead t ht]; exact hx)
      have hwant := hst.gd G φ a hreadEnv
      have hlisted : (fun k => (listed.setIfInBounds j true).getD k true) = also D j := by
        funext k
        unfold also
        rw [← hDk]
        simp only [Array.getD_eq_getD_getElem?, Array.getElem?_setIfInBounds]
        by_cases hkj : j = k
        · subst hkj; simp [hsz, hjlt]
        · rw [if_neg hkj, if_neg (Ne.symm hkj)]
      -- the next state of slots
      have nextEnv : ∀ (G' : Imm) (φ' : Loc) (v : Value), G.le G' → φ.le φ' → (S j).x.rep G' φ' v → EnvF G' φ' (curR ops S (also D j)) (a.put o.dst v) := by
        intro G' φ' v hle hple hx t y hy
        by_cases hd : o.dst = some t
        · have hw : wrR ops S j t = some (some (S j).x) := by simp [wrR, ho', hd]
          have h1 : curR ops S (also D j) t = some (S j).x := cur_same hw hjlt fun k h1 h2 h0 => slotNo k t (by omega) (by rw [h0]; simp; omega) h2 (.inr hd)
          rw [h1] at hy
          injection hy with hy; subst hy
          have hdn : t < n := by
            have := hst.dst
            unfold dstB at this
            rw [hd] at this
            exact Nat.le_of_ble_eq_true this
          exact ⟨v, by rw [hd]; simp [Act.put, hn, hdn], hx⟩
        · have hw : wrR ops S j t = none := by simp [wrR, ho', hd]
          have h1 : curR ops S (also D j) t = curR ops S D t := cur_other hw
          rw [h1] at hy
          obtain ⟨u, u1, u2⟩ := henv t y hy
          refine ⟨u, ?_, y.rep_mono hle hple u u2⟩
          cases hdd : o.dst with
          | none => exact u1
          | some d =>
            have hne : d ≠ t := fun e => hd (by rw [hdd, e])
            simp [Act.put, Array.getElem?_setIfInBounds_ne hne, u1]
      have hcnt' : cnt (fun k => (listed.setIfInBounds j true).getD k true) ops.length = fuel := by
        rw [hlisted]
        have := cnt_also hDj ops.length hjlt
        omega
      have hcl' : ∀ k o, ops[k]? = some o → (listed.setIfInBounds j true).getD k true = true → ∀ i ∈ edges o, (listed.setIfInBounds j true).getD i true = true := by
        intro k ok hk h1 i hi
        have e1 : (listed.setIfInBounds j true).getD k true = also D j k := by rw [← hlisted]
        have e2 : (listed.setIfInBounds j true).getD i true = also D j i := by rw [← hlisted]
        rw [e1] at h1
        rw [e2]
        unfold also at h1 ⊢
        by_cases hij : i = j
        · rw [if_pos hij]
        · rw [if_neg hij]
          by_cases hkj : k = j
          · subst hkj
            rw [ho'] at hk; injection hk with hk; subst hk
            exact hedge i hi
          · rw [if_neg hkj] at h1
            exact hclD k ok hk h1 i hi
      show wpOpIn (Fr r) 0 P ops.toArray Q j _ a w
      unfold wpOpIn
      rw [ho]
      dsimp only
      cases he : (S j).e with
      | some e =>
        rw [he] at hwant
        have hwant : Region.wanted o (yielded ops.toArray a.tmps) = true := hwant
        rw [if_pos hwant]
        refine op_in (hD0 j o ho') ?_
        have htri := hst.tri e he
        have hnewIn : ∀ i, (S j).H.length ≤ i → i < (S j).H.length + e.nw.length → i ∈ touch (S j).H.length e := fun i h1 h2 => by
          refine List.mem_append_right _ (List.mem_append_right _ (List.mem_range'.2 ⟨i - (S j).H.length, by omega, by omega⟩))
        refine htri.go a G w φ (curH ops S D) _ Q hs (fun y Y hy hY => ?_) (fun i hi => ?_) (fun i h1 h2 => ?_) fun v G' w' φ' q1 q2 q3 => ?_
        · cases y with
          | tmp t =>
            obtain ⟨u, u1, u2⟩ := hreadEnv t Y (by
              unfold reads
              refine List.mem_append_left _ (List.mem_filterMap.2 ⟨.tmp t, by simpa using hy, rfl⟩)) hY
            simpa [Act.eval, Array.getD_eq_getD_getElem?, u1] using u2
          | const c => exact ofConst_rep hY G φ
          | global g => cases hY
          | func f => injection hY with hY; subst hY; exact ⟨[], [], rfl, rfl, rfl⟩
        · refine objRead e i he ?_
          rcases hi with hi | ⟨p, hp, rfl⟩
          · exact List.mem_append_left _ hi
          · exact List.mem_append_right _ (List.mem_append_left _ (List.mem_map.2 ⟨p, hp, rfl⟩))
        · rw [objRead e i he (hnewIn i h1 h2)]
          exact List.getElem?_eq_none h1
        · have hupd : upd (curH ops S D) (S j).H.length e = curH ops S (also D j) := by
            funext i
            rw [effAt_upd]
            cases hw : effAt (S j).H.length (some e) i with
            | none =>
              have hw' : wrH S j i = none := by simp only [wrH, he, hw]
              exact (cur_other hw').symm
            | some ob =>
              have hw' : wrH S j i = some ob := by simp only [wrH, he, hw]
              refine (cur_same hw' hjlt fun k h1 h2 h0 => objNo e k i he (by omega) (by rw [h0]; simp; omega) h2 ?_).symm
              exact List.mem_append_right _ (effAt_wrote (by rw [hw]; simp))
          rw [hupd] at q1 q2
          have hx : (S j).x = e.x := by simp [Stp.x, he]
          refine ih _ _ G' w' φ' (by simp [hsz]) hcnt' hcl' (by rw [hlisted]; exact q1) (by rw [hlisted]; exact nextEnv G' φ' v q2.le q2.ple (by rw [hx]; exact q3)) (by rw [put_defers]; exact hdef) (by rw [put_size]; exact hn) (by rw [hlisted]; exact hgo.trans q2)
      | none =>
        rw [he] at hwant
        have hwant : Region.wanted o (yielded ops.toArray a.tmps) = false := hwant
        rw [if_neg (by rw [hwant]; simp)]
        have hH : curH ops S (also D j) = curH ops S D := by
          funext i
          exact cur_other (by simp [wrH, he, effAt])
        have hx : (S j).x = .tup [] := by simp [Stp.x, he]
        exact ⟨fun _ _ => trivial, ih _ _ G w φ (by simp [hsz]) hcnt' hcl' (by rw [hlisted, hH]; exact hs) (by rw [hlisted]; exact nextEnv G φ undef (Imm.le.refl _) (Loc.le.refl _) (by rw [hx]; exact ⟨[], rfl, rfl⟩)) (by rw [put_defers]; exact hdef) (by rw [put_size]; exact hn) (by rw [hlisted, hH]; exact hgo)⟩
end
end Go.Proofs.YtblnfodnkacbbaaGreatDoor.Q
