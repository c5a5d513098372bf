/- A logic of code over pure values, proved right. No condition. -/
import Derived.Test.YtmflfcbebeikcaaGreatDoorMA
import Derived.TacticsIn
import Derived.OrdersIn
import Derived.ScopeJumps
import Derived.RangeFuncLeaves
import Derived.RangeFuncRecord
set_option linter.unusedVariables false
set_option linter.unusedSectionVars false
set_option linter.unnecessarySimpa false
set_option linter.unusedSimpArgs false
namespace Go.Proofs.YtmflfcbebeikcaaGreatDoor.Q
variable [Amb]
section
variable {P : Program} {tt : TT} {o : Oper} {ρ : Env} {H : List Ob} {K : Eff → Prop}

/-- What is known for good, and cells of a block from a place on. -/
def addAt (G : Imm) (b lo : Nat) (us : List Value) : Imm := fun b' j => if b' = b ∧ lo ≤ j ∧ j < lo + us.length then us[j - lo]? else G b' j
theorem addAt_le {G : Imm} {b lo : Nat} (h : ∀ j, lo ≤ j → G b j = none) (us : List Value) : G.le (addAt G b lo us) := fun b' j v e => by
  unfold addAt
  split
  · rename_i hh; rw [hh.1, h j hh.2.1] at e; cases e
  · exact e
/-- What a slice becomes that has room. -/
theorem Sit.room {G : Imm} {w : World} {φ : Loc} {Hx : Hp} (hs : Sit G w φ Hx) (q b p e n c : Nat) (cs : List Value) (T : TypeId) (fr : Nat × Nat) (news : List Value) (rows qs : List (List D)) (hH : Hx q = some (.tip e n)) (hn : n = rows.length)
    (hφ : φ q n = some (some (b, p), c)) (hb : w.heap[b]? = some (.cells cs.toArray T fr)) (hsz : p + c * e ≤ cs.length) (hG : ∀ j, p + n * e ≤ j → G b j = none) (hfr : fr.2 ≤ p + n * e) (hun : ∀ m, n < m → φ q m = none)
    (hq : RowsIn G news e qs) (hqs : 0 < qs.length) (hc : n + qs.length ≤ c) (hrows : rows ≠ [] → ∃ b' o e', some (b, p) = some (b', o) ∧ repRows G b' o e' rows) (hrl : RL rows e) :
    Sit (addAt G b (p + n * e) news) (w.setRow b (cs.take (p + n * e) ++ news ++ cs.drop (p + n * e + news.length)).toArray) (setLoc φ q (n + qs.length) (some (b, p), c)) (fun i => if i = q then some (.tip e (n + qs.length)) else Hx i) ∧
    Goes G w φ Hx (addAt G b (p + n * e) news) (w.setRow b (cs.take (p + n * e) ++ news ++ cs.drop (p + n * e + news.length)).toArray) (setLoc φ q (n + qs.length) (some (b, p), c)) (fun i => if i = q then some (.tip e (n + qs.length)) else Hx i) ∧
    (V.gsl (rows ++ qs) q).rep (addAt G b (p + n * e) news) (setLoc φ q (n + qs.length) (some (b, p), c)) (.slice (some ⟨b, p, none⟩) (n + qs.length) c) := by
  have hnl := hq.1
  have hce : (n + qs.length) * e ≤ c * e := Nat.mul_le_mul_right _ hc
  rw [Nat.add_mul] at hce
  have hfit : p + n * e + news.length ≤ cs.length := by omega
  have hle := addAt_le hG news
  have hown : Owns φ q (.tip e n) b := by simp only [Owns, own, hφ]; rw [if_pos (by omega)]
  have hst := hs.step (G' := addAt G b (p + n * e) news) (w' := w.setRow b (cs.take (p + n * e) ++ news ++ cs.drop (p + n * e + news.length)).toArray) (φ' := setLoc φ q (n + qs.length) (some (b, p), c)) (H' := fun i => if i = q then some (.tip e (n + qs.length)) else Hx i) (fun i => i = q) hle (setLoc_le (hun _ (by omega))) (fun i hi m => setLoc_ne hi) rfl rfl rfl (by rw [setRow_size]; exact Nat.le_refl _)
    (fun k hk hno => by
      have hkb : k ≠ b := fun hkb => hno q _ rfl hH (by rw [hkb]; exact hown)
      exact ⟨setRow_other w b k _ hkb, fun j => by unfold addAt; rw [if_neg (fun hh => hkb hh.1)]⟩)
    (fun i hi => if_neg hi)
    (hs.inv.of hle (fun b' cs' T' fr' hb' h0 hall => by
      by_cases hbb : b' = b
      · subst hbb
        rw [hb] at hb'
        injection hb' with hb'; injection hb' with e1 e2 e3
        subst e1
        rcases Nat.eq_zero_or_pos news.length with hn0 | hn0
        · rw [setRow_heap w b' _ _ T fr hb, hb]
          have : news = [] := List.eq_nil_of_length_eq_zero hn0
          subst this
          simp
        · have := hall (p + n * e) (by simp; omega)
          rw [hG _ (Nat.le_refl _)] at this; cases this
      · exact setRow_other w b b' _ hbb) fun b' j v hg => by
      unfold addAt at hg
      split at hg
      · rename_i hh
        obtain ⟨rfl, h1, h2⟩ := hh
        rw [cell_us _ (setRow_heap w b' _ _ T fr hb), mid_get cs news (p + n * e) news.length rfl hfit, if_neg (by omega), if_pos h2]
        exact hg
      · by_cases hbb : b' = b
        · subst hbb
          have hj : j < p + n * e := by
            rcases Nat.lt_or_ge j (p + n * e) with h | h
            · exact h
            · rw [hG j h] at hg; cases hg
          rw [cell_us _ (setRow_heap w b' _ _ T fr hb), mid_get cs news (p + n * e) news.length rfl hfit, if_pos hj, ← cell_us w hb]
          exact hs.inv _ _ _ hg
        · rw [cell_setRow_other w b _ ⟨b', j, none⟩ hbb]
          exact hs.inv _ _ _ hg)
    (fun i ob hi h1 => by
      subst hi; simp at h1; subst h1
      refine ⟨some (b, p), c, setLoc_same _ _ _ _, hc, fun m hm => ?_, fun hlt => ⟨b, p, _, T, fr, rfl, setRow_heap w b _ _ T fr hb, ?_, fun j hj => ?_, ?_⟩⟩
      · unfold setLoc; rw [if_neg (by omega)]; exact hun m (by omega)
      · simp only [List.size_toArray, List.length_append, List.length_take, List.length_drop]; omega
      · rw [Nat.add_mul] at hj
        unfold addAt
        rw [if_neg (by omega)]
        exact hG j (by omega)
      · rw [Nat.add_mul]; omega)
    (fun i j ob1 ob2 b hi hj hij => absurd (hi.trans hj.symm) hij)
    (fun i ob k hi h1 h2 => by
      subst hi; simp at h1; subst h1
      simp only [Owns, own, setLoc_same] at h2
      split at h2
      · injection h2 with h2; subst h2; exact .inl ⟨i, _, rfl, hH, hown⟩
      · cases h2)
    (fun i hi h1 => by subst hi; simp at h1)
  refine ⟨hst.1, hst.2, some (b, p), c, by rw [List.length_append, ← hn]; exact setLoc_same _ _ _ _, by rw [List.length_append, ← hn]; rfl, by rw [List.length_append, ← hn]; exact hc, fun _ => ⟨b, p, e, rfl, repRows_append ?_ ?_⟩⟩
  · by_cases hr : rows = []
    · rw [hr]; trivial
    · obtain ⟨b', o', e', h1, h2⟩ := hrows hr
      injection h1 with h1; injection h1 with h1 h1'; subst h1; subst h1'
      have he : e' = e := by
        obtain ⟨r, hr⟩ := List.exists_mem_of_ne_nil rows hr
        rw [← repRows_len h2 r hr, hrl r hr]
      subst he
      exact repRows_mono hle _ _ _ _ h2
  · refine hq.rows hle fun j u hj => ?_
    unfold addAt
    rw [← hn, if_pos ⟨rfl, by omega, by have := lt_of_get hj; omega⟩, show p + n * e + j - (p + n * e) = j by omega]
    exact hj
theorem list_of_array (cs : Array Value) : ∃ l : List Value, cs = l.toArray := ⟨cs.toList, by simp⟩
theorem pApp_sem (htt : TTok P tt) {t t2 : TypeId} {x y : Operand} {X Y : V} (ho : o.op = .call { callee := .builtin .append, args := #[x, y], argTypes := #[t, t2] }) (hx : ev ρ x = some X) (hy : ev ρ y = some Y) (h : pApp tt t t2 X Y H K) : ∃ e, K e ∧ Tri P o ρ H e := by
  have hox : x ∈ o.op.operands := by rw [ho]; simp [Op.operands, Call.operands]
  have hoy : y ∈ o.op.operands := by rw [ho]; simp [Op.operands, Call.operands]
  have run : ∀ (a : Act) (w w' : World) (v : Value), (Builtin.append_ #[t, t2] o.type #[a.eval x, a.eval y]).run P w = .ok v w' → (execOp a.eval o).run P w = .ok (.value v) w' := by
    intro a w w' v e1
    unfold execOp
    rw [ho]
    simp [resolve, invoke, builtin, e1]
  unfold pApp at h
  split at h
  · rename_i e qs he hqs
    obtain ⟨ti, d, h1, h2, _, _, h3, _⟩ := tt_get htt he
    split at h
    · rename_i el hk
      rw [hk] at h3; rw [mkK_slice h3] at h2
      split at h
      · rename_i te hte
        obtain ⟨i, d', i1, i2, i3, i4, _, i5⟩ := tt_get htt hte
        split at h
        · rename_i z hz
          rw [hz, Option.bind_eq_some_iff] at i5
          obtain ⟨v0, hv0, hvz⟩ := i5
          obtain ⟨hc, h'⟩ := condP_out h
          clear h
          simp only [Bool.and_eq_true] at hc
          obtain ⟨⟨c0, c1⟩, c2⟩ := hc
          have c1 := Nat.eq_of_beq_eq_true c1
          have c2 := Nat.le_of_ble_eq_true c2
          have zsz : ∀ n, (Builtin.zeroCells v0.cells n).toList.length = n * te.size := by
            intro n
            have : v0.cells.size = te.size := by
              have := repVs_len (V.cells_rep' (ofConst_rep hvz (fun _ _ => none) (fun _ _ => none)) c0).1
              simp at this; omega
            rw [Array.length_toList, size_zeroCells, this]
          have fits : ∀ n m c, c < n + m → n + m ≤ 1073741824 → Builtin.nextslicecap (n + m) c * i.bytes ≤ 281474976710656 := by
            intro n m c hlt hle
            refine growslice_fits hlt ?_
            rw [i4]
            exact Nat.le_trans (Nat.mul_le_mul hle c2) (by omega)
          split at h'
          · rename_i rows
            obtain ⟨⟨hrl, hql, hlen⟩, hK0⟩ := h'
            rw [List.length_append] at hlen
            refine ⟨_, hK0, ⟨by simp, by simp, fun a G w φ Hx K Q hs hr ha hf hK => ?_⟩⟩
            have hn : Hx H.length = none := hf _ (Nat.le_refl _) (by simp)
            obtain ⟨A, e1, e2⟩ := hr x _ hox hx
            obtain ⟨d2, g1, g2, g3, news, g4, g5⟩ := rowsX_run (P := P) htt hqs hql (hr y _ hoy hy) w hs.inv
            rw [upd_tip] at hK
            unfold Oper.wp
            by_cases hm : qs.length = 0
            · have hq0 : qs = [] := List.eq_nil_of_length_eq_zero hm
              subst hq0
              have hn0 : news = [] := List.eq_nil_of_length_eq_zero (by rw [g4.1]; simp)
              subst hn0
              have hr1 := run_app_same (P := P) w t t2 o.type el d2 i h2 g1 g2 i1 (Addr0 A) rows.length rows.length (a.eval y) g3 (by rw [i3]; exact g5) (Nat.le_refl _)
              rw [← e1] at hr1
              rw [run a w w _ hr1, Oper.upon_value]
              simp only [List.append_nil] at hK ⊢
              have hst := hs.step (G' := G) (w' := w) (φ' := setLoc φ H.length rows.length (A, rows.length)) (H' := fun i => if i = H.length then some (.tip te.size rows.length) else Hx i) (fun i => i = H.length) (Imm.le.refl _) (setLoc_le (hs.un _ hn _)) (fun i hi m => setLoc_ne hi) rfl rfl rfl (Nat.le_refl _)
                (fun b hb _ => ⟨rfl, fun _ => rfl⟩) (fun i hi => if_neg hi) hs.inv
                (fun i ob hi h1 => by
                  subst hi; simp at h1; subst h1
                  exact ⟨A, rows.length, setLoc_same _ _ _ _, Nat.le_refl _, fun m hm => by unfold setLoc; rw [if_neg (by omega)]; exact hs.un _ hn m, fun hlt => absurd hlt (Nat.lt_irrefl _)⟩)
                (fun i j ob1 ob2 b hi hj hij => absurd (hi.trans hj.symm) hij)
                (fun i ob b hi h1 h2 => by
                  subst hi; simp at h1; subst h1
                  simp only [Owns, own, setLoc_same] at h2
                  split at h2
                  · rename_i hh
                    simp only [Option.some.injEq, Prod.mk.injEq] at hh
                    split at h2
                    · omega
                    · cases h2
                  · cases h2)
                (fun i hi h1 => by subst hi; simp at h1)
              exact hK _ _ _ _ hst.1 hst.2 ⟨A, rows.length, setLoc_same _ _ _ _, e1, Nat.le_refl _, e2⟩
            · obtain ⟨olds, o1, o2⟩ := sl_cells (P := P) (w := w.drew) hs.inv.drew (c := rows.length) hrl e2
              obtain ⟨_, _, _, _, news', g4', g5'⟩ := rowsX_run (P := P) htt hqs hql (hr y _ hoy hy) w.drew hs.inv.drew
              have hr1 := run_app_grow (P := P) w t t2 o.type el d2 i v0 h2 g1 g2 i1 hv0 (Addr0 A) rows.length rows.length qs.length (a.eval y) olds news' g3 (by rw [i3]; exact g5') (by rw [i3]; exact o2) (by omega) (by omega) (fits _ _ _ (by omega) hlen)
              rw [← e1] at hr1
              rw [run a w _ _ hr1, Oper.upon_value]
              have hge := grownCap_ge w (rows.length + qs.length) rows.length el
              have hst := hs.drew.grow H.length te.size (rows.length + qs.length) (grownCap w (rows.length + qs.length) rows.length el) (olds ++ news') (Builtin.zeroCells v0.cells (grownCap w (rows.length + qs.length) rows.length el - (rows.length + qs.length))).toList (rows ++ qs) el (o1.append g4') (by rw [List.length_append]) hge (zsz _) (fun m hm => hs.un _ hn m) (fun _ _ _ _ => trivial)
              have hst2 : Goes G w φ Hx _ _ _ _ := (Goes.drew G w φ Hx).trans hst.2.1
              rw [List.length_append] at hK
              exact hK _ _ _ _ hst.1 hst2 hst.2.2
          · rename_i rows q
            split at h'
            · rename_i esz n hH
              obtain ⟨hes, ⟨hnr, hrl, hql, hlen⟩, hK0⟩ := condP_out h'
              have hes := Nat.eq_of_beq_eq_true hes
              subst hes
              rw [List.length_append] at hlen
              have hqlt := lt_of_get hH
              refine ⟨_, hK0, ⟨by simp, by simpa using hqlt, fun a G w φ Hx K Q hs hr ha hf hK => ?_⟩⟩
              obtain ⟨A, c, e0, e1, e3, e2⟩ := hr x _ hox hx
              obtain ⟨d2, g1, g2, g3, news, g4, g5⟩ := rowsX_run (P := P) htt hqs hql (hr y _ hoy hy) w hs.inv
              have hHx : Hx q = some (.tip te.size n) := (ha q (.inr ⟨_, List.mem_singleton.2 rfl, rfl⟩)).trans hH
              obtain ⟨A', c', f1, f2, f3, f4⟩ := hs.holds q _ hHx
              rw [hnr, e0] at f1; injection f1 with f1; injection f1 with f1 f1'; subst f1; subst f1'
              rw [upd_one] at hK
              unfold Oper.wp
              by_cases hm : qs.length = 0
              · have hq0 : qs = [] := List.eq_nil_of_length_eq_zero hm
                subst hq0
                have hn0 : news = [] := List.eq_nil_of_length_eq_zero (by rw [g4.1]; simp)
                subst hn0
                have hr1 := run_app_same (P := P) w t t2 o.type el d2 i h2 g1 g2 i1 (Addr0 A) rows.length c (a.eval y) g3 (by rw [i3]; exact g5) e3
                rw [← e1] at hr1
                rw [run a w w _ hr1, Oper.upon_value]
                simp only [List.append_nil] at hK ⊢
                have hsame : (fun i => if i = q then some (Ob.tip te.size rows.length) else Hx i) = Hx := by
                  funext i
                  by_cases hi : i = q
                  · rw [if_pos hi, hi, hHx, hnr]
                  · rw [if_neg hi]
                rw [hsame] at hK
                exact hK _ _ _ _ hs (Goes.refl _ _ _ _) ⟨A, c, e0, e1, e3, e2⟩
              · by_cases hroom : rows.length + qs.length ≤ c
                · obtain ⟨b, p, cs, T, fr, rfl, k1, k2, k3, k4⟩ := f4 (by omega)
                  obtain ⟨cl, rfl⟩ := list_of_array cs
                  have hce : (rows.length + qs.length) * te.size ≤ c * te.size := Nat.mul_le_mul_right _ hroom
                  rw [Nat.add_mul] at hce
                  have hnl := g4.1
                  simp at k2
                  have hst0 := run_storeCells_atF P b (p + rows.length * te.size) T fr news 0 cl.toArray w k1 (by rw [← hnr]; omega) (by simp; omega) g4.one
                  simp only [Nat.add_zero] at hst0
                  have hr1 := run_app_room (P := P) w t t2 o.type el d2 i h2 g1 g2 i1 b p rows.length c qs.length (a.eval y) news _ g3 (by rw [i3]; exact g5) hroom (by rw [i3]; exact hst0)
                  rw [show (some ⟨b, p, none⟩ : Option Addr) = Addr0 (some (b, p)) from rfl, ← e1] at hr1
                  rw [run a w _ _ hr1, Oper.upon_value]
                  have hst := hs.room q b p te.size n c cl T fr news rows qs hHx hnr (by rw [hnr]; exact e0) k1 k2 k3 k4 f3 g4 (by omega) (by omega) e2 hrl
                  rw [List.length_append, ← hnr] at hK
                  rw [← hnr]
                  exact hK _ _ _ _ hst.1 hst.2.1 hst.2.2
                · obtain ⟨olds, o1, o2⟩ := sl_cells (P := P) (w := w.drew) hs.inv.drew (c := c) hrl e2
                  obtain ⟨_, _, _, _, news', g4', g5'⟩ := rowsX_run (P := P) htt hqs hql (hr y _ hoy hy) w.drew hs.inv.drew
                  have hr1 := run_app_grow (P := P) w t t2 o.type el d2 i v0 h2 g1 g2 i1 hv0 (Addr0 A) rows.length c qs.length (a.eval y) olds news' g3 (by rw [i3]; exact g5') (by rw [i3]; exact o2) (by omega) (by omega) (fits _ _ _ (by omega) hlen)
                  rw [← e1] at hr1
                  rw [run a w _ _ hr1, Oper.upon_value]
                  have hge := grownCap_ge w (rows.length + qs.length) c el
                  have hst := hs.drew.grow q te.size (rows.length + qs.length) (grownCap w (rows.length + qs.length) c el) (olds ++ news') (Builtin.zeroCells v0.cells (grownCap w (rows.length + qs.length) c el - (rows.length + qs.length))).toList (rows ++ qs) el (o1.append g4') (by rw [List.length_append]) hge (zsz _) (fun m hm => f3 m (by omega)) (fun _ _ _ _ => trivial)
                  have hst2 : Goes G w φ Hx _ _ _ _ := (Goes.drew G w φ Hx).trans hst.2.1
                  rw [List.length_append] at hK
                  exact hK _ _ _ _ hst.1 hst2 hst.2.2
            · exact h'.elim
          · exact h'.elim
        · exact h.elim
      · exact h.elim
    · exact h.elim
  · exact h.elim
/-- Something appended to a slice without room, as an array that may be written. -/
def pAppArr (tt : TT) (t t2 : TypeId) (X Y : V) (H : List Ob) (K : Eff → Prop) : Prop :=
  match tt t, rowsX tt t2 Y with
  | some e, some qs =>
    match e.kind with
    | .slice el => match tt el with
      | some te => match te.zero with
        | some z => condP (z.cellB && Nat.beq z.cells.length te.size && Nat.ble te.bytes 65536) (match X with
          | .fsl rows => (RL rows te.size ∧ RL qs te.size ∧ (rows ++ qs).length ≤ 1073741824 ∧ qs ≠ []) ∧ K ⟨.arr H.length 0 (rows ++ qs).length, [], [], [.parr te.size (rows ++ qs)]⟩
          | _ => False)
        | none => False
      | none => False
    | _ => False
  | _, _ => False
theorem pAppArr_sem (htt : TTok P tt) {t t2 : TypeId} {x y : Operand} {X Y : V} (ho : o.op = .call { callee := .builtin .append, args := #[x, y], argTypes := #[t, t2] }) (hx : ev ρ x = some X) (hy : ev ρ y = some Y) (h : pAppArr tt t t2 X Y H K) : ∃ e, K e ∧ Tri P o ρ H e := by
  have hox : x ∈ o.op.operands := by rw [ho]; simp [Op.operands, Call.operands]
  have hoy : y ∈ o.op.operands := by rw [ho]; simp [Op.operands, Call.operands]
  have run : ∀ (a : Act) (w w' : World) (v : Value), (Builtin.append_ #[t, t2] o.type #[a.eval x, a.eval y]).run P w = .ok v w' → (execOp a.eval o).run P w = .ok (.value v) w' := by
    intro a w w' v e1
    unfold execOp
    rw [ho]
    simp [resolve, invoke, builtin, e1]
  unfold pAppArr at h
  split at h
  · rename_i e qs he hqs
    obtain ⟨ti, d, h1, h2, _, _, h3, _⟩ := tt_get htt he
    split at h
    · rename_i el hk
      rw [hk] at h3; rw [mkK_slice h3] at h2
      split at h
      · rename_i te hte
        obtain ⟨i, d', i1, i2, i3, i4, _, i5⟩ := tt_get htt hte
        split at h
        · rename_i z hz
          rw [hz, Option.bind_eq_some_iff] at i5
          obtain ⟨v0, hv0, hvz⟩ := i5
          obtain ⟨hc, h'⟩ := condP_out h
          clear h
          simp only [Bool.and_eq_true] at hc
          obtain ⟨⟨c0, c1⟩, c2⟩ := hc
          have c2 := Nat.le_of_ble_eq_true c2
          have fits : ∀ n m c, c < n + m → n + m ≤ 1073741824 → Builtin.nextslicecap (n + m) c * i.bytes ≤ 281474976710656 := by
            intro n m c hlt hle
            refine growslice_fits hlt ?_
            rw [i4]
            exact Nat.le_trans (Nat.mul_le_mul hle c2) (by omega)
          split at h'
          · rename_i rows
            obtain ⟨⟨hrl, hql, hlen, hne⟩, hK0⟩ := h'
            rw [List.length_append] at hlen
            refine ⟨_, hK0, ⟨by simp, by simp, fun a G w φ Hx K Q hs hr ha hf hK => ?_⟩⟩
            have hn : Hx H.length = none := hf _ (Nat.le_refl _) (by simp)
            obtain ⟨A, e1, e2⟩ := hr x _ hox hx
            obtain ⟨d2, g1, g2, g3, news, g4, g5⟩ := rowsX_run (P := P) htt hqs hql (hr y _ hoy hy) w hs.inv
            rw [upd_tip] at hK
            unfold Oper.wp
            have hm : qs.length ≠ 0 := fun h0 => hne (List.eq_nil_of_length_eq_zero h0)
            obtain ⟨olds, o1, o2⟩ := sl_cells (P := P) (w := w.drew) hs.inv.drew (c := rows.length) hrl e2
            obtain ⟨_, _, _, _, news', g4', g5'⟩ := rowsX_run (P := P) htt hqs hql (hr y _ hoy hy) w.drew hs.inv.drew
            have hr1 := run_app_grow (P := P) w t t2 o.type el d2 i v0 h2 g1 g2 i1 hv0 (Addr0 A) rows.length rows.length qs.length (a.eval y) olds news' g3 (by rw [i3]; exact g5') (by rw [i3]; exact o2) (by omega) (by omega) (fits _ _ _ (by omega) hlen)
            rw [← e1] at hr1
            rw [run a w _ _ hr1, Oper.upon_value]
            have hge := grownCap_ge w (rows.length + qs.length) rows.length el
            have hri := o1.append g4'
            obtain ⟨zs, hzs⟩ : ∃ zs, (Builtin.zeroCells v0.cells (grownCap w (rows.length + qs.length) rows.length el - (rows.length + qs.length))).toList = zs := ⟨_, rfl⟩
            rw [hzs]
            have hG : ∀ j, G w.heap.size j = none := fun j => by
              cases hj : G w.heap.size j with
              | none => rfl
              | some v => have := hs.inv _ _ _ hj; simp [World.cell?] at this
            have hst := Sit.add hs.drew H.length 0 te.size (.parr te.size (rows ++ qs)) (.cells (olds ++ news' ++ zs).toArray el) hn
              ⟨w.heap.size, el, olds ++ news' ++ zs, setLoc_same .., heap_new w.drew _, by rw [List.length_append (as := olds ++ news'), hri.1]; omega, fun k r hk => ⟨(hri.2 k r hk).1, fun j d hj => by
                obtain ⟨u, u1, u2⟩ := (hri.2 k r hk).2 j d hj
                exact ⟨u, by rw [List.getElem?_append_left (lt_of_get u1)]; exact u1, u2⟩⟩, hG⟩
              (fun b hb => by
                simp only [Owns, own] at hb
                rw [setLoc_same] at hb
                injection hb with hb; exact hb.symm)
            exact hK _ _ _ _ hst.1 ((Goes.drew G w φ Hx).trans hst.2) ⟨w.heap.size, te.size, setLoc_same .., _, by rw [List.length_append]; exact hge, by rw [List.length_append, Nat.zero_mul]⟩
          · exact h'.elim
        · exact h.elim
      · exact h.elim
    · exact h.elim
  · exact h.elim
end
end Go.Proofs.YtmflfcbebeikcaaGreatDoor.Q

namespace Go.Proofs.YtmflfcbebeikcaaGreatDoor.Q
variable [Amb]

/-! ### other numbers for objects -/
mutual
def V.ren (f : Nat → Option Nat) : V → Option V
  | .d x => some (.d x)
  | .agg cs => match rens f cs with | some ys => some (.agg ys) | none => none
  | .tup cs => match rens f cs with | some ys => some (.tup ys) | none => none
  | .ptr id off => match f id with | some i => some (.ptr i off) | none => none
  | .iptr row => some (.iptr row)
  | .eptr id i off => match f id with | some j => some (.eptr j i off) | none => none
  | .fsl rows => some (.fsl rows)
  | .gsl rows t => match f t with | some i => some (.gsl rows i) | none => none
  | .vsl _ => none
  | .arr id off len => match f id with | some i => some (.arr i off len) | none => none
  | .map id => match f id with | some i => some (.map i) | none => none
  | .fn g fs cs => match rens f fs with
    | some xs => match rens f cs with
      | some ys => some (.fn g xs ys)
      | none => none
    | none => none
  | .yld id => match f id with
    | some i => some (.yld i)
    | none => none
  | .undef => some .undef
def rens (f : Nat → Option Nat) : List V → Option (List V)
  | [] => some []
  | x :: xs => match x.ren f with
    | some y => match rens f xs with
      | some ys => some (y :: ys)
      | none => none
    | none => none
end
def Moves (f : Nat → Option Nat) (φ1 φ2 : Loc) : Prop := ∀ id i, f id = some i → ∀ n z, φ1 id n = some z → φ2 i n = some z
mutual
theorem V.ren_rep {f : Nat → Option Nat} {φ1 φ2 : Loc} (hf : Moves f φ1 φ2) {G : Imm} : ∀ (x y : V) (v : Value), x.ren f = some y → x.rep G φ1 v → y.rep G φ2 v
  | .d x, y, v, h, k => by injection h with h; subst h; exact k
  | .agg cs, y, v, h, k => by
    unfold V.ren at h
    split at h
    · rename_i ys hys
      injection h with h; subst h
      obtain ⟨us, e, h1, h2⟩ := k
      exact ⟨us, e, rens_rep hf cs ys us hys h1, h2⟩
    · cases h
  | .tup cs, y, v, h, k => by
    unfold V.ren at h
    split at h
    · rename_i ys hys
      injection h with h; subst h
      obtain ⟨us, e, h1⟩ := k
      exact ⟨us, e, rens_rep hf cs ys us hys h1⟩
    · cases h
  | .ptr id off, y, v, h, k => by
    unfold V.ren at h
    split at h
    · rename_i i hi
      injection h with h; subst h
      obtain ⟨b, c, h1, h2⟩ := k
      exact ⟨b, c, hf id i hi _ _ h1, h2⟩
    · cases h
  | .iptr row, y, v, h, k => by injection h with h; subst h; exact k
  | .eptr id j off, y, v, h, k => by
    unfold V.ren at h
    split at h
    · rename_i i hi
      injection h with h; subst h
      obtain ⟨b, c, h1, h2⟩ := k
      exact ⟨b, c, hf id i hi _ _ h1, h2⟩
    · cases h
  | .fsl rows, y, v, h, k => by injection h with h; subst h; exact k
  | .gsl rows t, y, v, h, k => by
    unfold V.ren at h
    split at h
    · rename_i i hi
      injection h with h; subst h
      obtain ⟨A, c, h1, h2⟩ := k
      exact ⟨A, c, hf t i hi _ _ h1, h2⟩
    · cases h
  | .vsl rows, y, v, h, k => by unfold V.ren at h; cases h
  | .arr id off len, y, v, h, k => by
    unfold V.ren at h
    split at h
    · rename_i i hi
      injection h with h; subst h
      obtain ⟨b, c, h1, h2⟩ := k
      exact ⟨b, c, hf id i hi _ _ h1, h2⟩
    · cases h
  | .map id, y, v, h, k => by
    unfold V.ren at h
    split at h
    · rename_i i hi
      injection h with h; subst h
      obtain ⟨b, c, h1, h2⟩ := k
      exact ⟨b, c, hf id i hi _ _ h1, h2⟩
    · cases h
  | .fn g fs cs, y, v, h, k => by
    unfold V.ren at h
    split at h
    · rename_i xs hxs
      split at h
      · rename_i ys hys
        injection h with h; subst h
        obtain ⟨us, vs, e, h1, h2⟩ := k
        exact ⟨us, vs, e, rens_rep hf fs xs us hxs h1, rens_rep hf cs ys vs hys h2⟩
      · cases h
    · cases h
  | .yld id, y, v, h, k => by
    unfold V.ren at h
    split at h
    · rename_i i hi
      injection h with h; subst h
      obtain ⟨b, c, h1, h2⟩ := k
      exact ⟨b, c, hf id i hi _ _ h1, h2⟩
    · cases h
  | .undef, y, v, h, k => by injection h with h; subst h; exact k
theorem rens_rep {f : Nat → Option Nat} {φ1 φ2 : Loc} (hf : Moves f φ1 φ2) {G : Imm} : ∀ (xs ys : List V) (us : List Value), rens f xs = some ys → repVs G φ1 xs us → repVs G φ2 ys us
  | [], ys, us, h, k => by injection h with h; subst h; exact k
  | x :: xs, ys, us, h, k => by
    unfold rens at h
    split at h
    · rename_i y hy
      split at h
      · rename_i zs hzs
        injection h with h; subst h
        obtain ⟨u, us', e, h1, h2⟩ := k
        exact ⟨u, us', e, x.ren_rep hf y u hy h1, rens_rep hf xs zs us' hzs h2⟩
      · cases h
    · cases h
end
def Ob.ren (f : Nat → Option Nat) : Ob → Option Ob
  | .box cells => match rens f cells with | some ys => some (.box ys) | none => none
  | .tip e n => some (.tip e n)
  | .parr e rows => some (.parr e rows)
  | .hist xs => some (.hist xs)
  | .mp ks vs => match rens f ks, rens f vs with
    | some ks', some vs' => some (.mp ks' vs')
    | _, _ => none
  | .bld T e u s rest => match rens f rest with | some ys => some (.bld T e u s ys) | none => none
  | .dead => some .dead
theorem Ob.ren_holds {f : Nat → Option Nat} {φ1 φ2 : Loc} (hf : Moves f φ1 φ2) {G : Imm} {w : World} {id i : Nat} (hi : ∀ n, φ2 i n = φ1 id n) {ob ob' : Ob} (h : ob.ren f = some ob') (k : Holds G w φ1 id ob) : Holds G w φ2 i ob' := by
  cases ob with
  | box cells =>
    unfold Ob.ren at h
    dsimp only at h
    split at h
    · rename_i ys hys
      injection h with h; subst h
      obtain ⟨b, c, T, us, h1, h2, h3, h4, h5⟩ := k
      exact ⟨b, c, T, us, by rw [hi]; exact h1, h2, rens_rep hf _ _ _ hys h3, h4, h5⟩
    · cases h
  | tip e n =>
    injection h with h; subst h
    obtain ⟨A, c, h1, h2, h3, h4⟩ := k
    exact ⟨A, c, by rw [hi]; exact h1, h2, fun m hm => by rw [hi]; exact h3 m hm, h4⟩
  | parr e rows =>
    injection h with h; subst h
    obtain ⟨b, T, us, h1, h2⟩ := k
    exact ⟨b, T, us, by rw [hi]; exact h1, h2⟩
  | hist xs =>
    injection h with h; subst h
    obtain ⟨⟨c, h1⟩, h2⟩ := k
    refine ⟨⟨c, by rw [hi]; exact h1⟩, ?_⟩
    have e : (fun b => (φ2 i (b + 1)).isSome = true) = (fun b => (φ1 id (b + 1)).isSome = true) := by funext b; rw [hi]
    rw [e]; exact h2
  | mp ks vs =>
    unfold Ob.ren at h
    dsimp only at h
    split at h
    · rename_i ks' vs' hk hv
      injection h with h; subst h
      obtain ⟨b, c, es, clk, h1, h2, h3, h4, h5⟩ := k
      exact ⟨b, c, es, clk, by rw [hi]; exact h1, h2, rens_rep hf _ _ _ hk h3, rens_rep hf _ _ _ hv h4, h5⟩
    · cases h
  | bld T e u s rest =>
    unfold Ob.ren at h
    dsimp only at h
    split at h
    · rename_i ys hys
      injection h with h; subst h
      obtain ⟨b, v, us, h1, h2, h3, h4, h5, h6, h7, h8, h9, h10⟩ := k
      exact ⟨b, v, us, by rw [hi]; exact h1, h2, rens_rep hf _ _ _ hys h3, h4, h5, h6, h7, fun g hg => by rw [hi]; exact h8 g hg, fun g hg => by rw [hi] at hg; exact h9 g hg, h10⟩
    · cases h
  | dead => injection h with h; subst h; trivial
theorem Ob.ren_own {f : Nat → Option Nat} {φ1 φ2 : Loc} {id i : Nat} (hi : ∀ n, φ2 i n = φ1 id n) {ob ob' : Ob} (h : ob.ren f = some ob') : Owns φ2 i ob' = Owns φ1 id ob := by
  funext b
  cases ob with
  | box cells =>
    unfold Ob.ren at h
    dsimp only at h
    split at h
    · injection h with h; subst h; simp only [Owns, own, hi]
    · cases h
  | tip e n => injection h with h; subst h; simp only [Owns, own, hi]
  | parr e rows => injection h with h; subst h; simp only [Owns, own, hi]
  | hist xs => injection h with h; subst h; simp only [Owns, hi]
  | mp ks vs =>
    unfold Ob.ren at h
    dsimp only at h
    split at h
    · injection h with h; subst h; simp only [Owns, own, hi]
    · cases h
  | bld T e u s rest =>
    unfold Ob.ren at h
    dsimp only at h
    split at h
    · injection h with h; subst h; simp only [Owns, hi]
    · cases h
  | dead => injection h with h; subst h; rfl

/-! ### what is handed on -/
mutual
/-- Handed on, or handed back: without the room behind slices. -/
def V.plain : V → V
  | .fsl rows => .d (.sl rows)
  | .gsl rows _ => .d (.sl rows)
  | .agg cs => .agg (plains cs)
  | .tup cs => .tup (plains cs)
  | .d x => .d x
  | .ptr i o => .ptr i o
  | .iptr r => .iptr r
  | .eptr i j o => .eptr i j o
  | .vsl r => .vsl r
  | .arr i o l => .arr i o l
  | .map i => .map i
  | .fn f a b => .fn f a b
  | .yld id => .yld id
  | .undef => .undef
def plains : List V → List V
  | [] => []
  | x :: xs => x.plain :: plains xs
end
mutual
theorem V.plain_rep {G : Imm} {φ : Loc} : ∀ (x : V) (v : Value), x.rep G φ v → x.plain.rep G φ v
  | .fsl rows, v, ⟨A, e, h⟩ => ⟨Addr0 A, _, e, Nat.le_refl _, a0 h⟩
  | .gsl rows t, v, ⟨A, c, _, e, h1, h2⟩ => ⟨Addr0 A, c, e, h1, a0 h2⟩
  | .agg cs, v, ⟨us, e, h1, h2⟩ => ⟨us, e, plains_rep cs us h1, h2⟩
  | .tup cs, v, ⟨us, e, h1⟩ => ⟨us, e, plains_rep cs us h1⟩
  | .d x, v, h => h
  | .ptr i o, v, h => h
  | .iptr r, v, h => h
  | .eptr i j o, v, h => h
  | .vsl r, v, h => h
  | .arr i o l, v, h => h
  | .map i, v, h => h
  | .fn f a b, v, h => h
  | .yld id, v, h => h
  | .undef, v, h => h
theorem plains_rep {G : Imm} {φ : Loc} : ∀ (xs : List V) (us : List Value), repVs G φ xs us → repVs G φ (plains xs) us
  | [], us, h => h
  | x :: xs, us, ⟨u, us', e, h1, h2⟩ => ⟨u, us', e, x.plain_rep u h1, plains_rep xs us' h2⟩
end
mutual
def V.ids : V → List Nat
  | .ptr i _ => [i]
  | .eptr i _ _ => [i]
  | .gsl _ t => [t]
  | .arr i _ _ => [i]
  | .map i => [i]
  | .agg cs => idsL cs
  | .tup cs => idsL cs
  | .fn _ a b => idsL a ++ idsL b
  | .d _ => []
  | .iptr _ => []
  | .fsl _ => []
  | .vsl _ => []
  | .yld id => [id]
  | .undef => []
def idsL : List V → List Nat
  | [] => []
  | x :: xs => x.ids ++ idsL xs
end
def Ob.ids : Ob → List Nat
  | .box cells => idsL cells
  | .mp ks vs => idsL ks ++ idsL vs
  | .bld _ _ _ _ rest => idsL rest
  | _ => []
def memB (i : Nat) : List Nat → Bool
  | [] => false
  | j :: r => bif Nat.beq i j then true else memB i r
/-- All that can be come to from some objects, in the order in which one comes to it. -/
def reach (H : List Ob) : Nat → List Nat → List Nat → List Nat
  | 0, _, acc => acc
  | _ + 1, [], acc => acc
  | n + 1, i :: todo, acc => bif memB i acc then reach H n todo acc else
    reach H n ((match H[i]? with | some ob => ob.ids | none => []) ++ todo) (acc ++ [i])
def pos (ids : List Nat) (i : Nat) : Option Nat := match ids with
  | [] => none
  | j :: r => bif Nat.beq j i then some 0 else match pos r i with
    | some k => some (k + 1)
    | none => none
theorem pos_get : ∀ {ids : List Nat} {i k : Nat}, pos ids i = some k → ids[k]? = some i
  | [], _, _, h => by cases h
  | j :: r, i, k, h => by
    unfold pos at h
    cases hb : Nat.beq j i with
    | true =>
      rw [hb] at h
      injection h with h
      subst h
      rw [Nat.eq_of_beq_eq_true hb]; rfl
    | false =>
      rw [hb] at h
      dsimp only [cond] at h
      split at h
      · rename_i k' hk
        injection h with h; subst h
        simpa using pos_get hk
      · cases h
theorem pos_none : ∀ {ids : List Nat} {i : Nat}, pos ids i = none → i ∉ ids
  | [], _, _ => by simp
  | j :: r, i, h => by
    unfold pos at h
    cases hb : Nat.beq j i with
    | true => rw [hb] at h; cases h
    | false =>
      rw [hb] at h
      dsimp only [cond] at h
      split at h
      · cases h
      · rename_i hk
        have hne : i ≠ j := fun e => by rw [e] at hb; simp at hb
        intro hm
        rcases List.mem_cons.1 hm with h1 | h1
        · exact hne h1
        · exact pos_none hk h1
def nodupB : List Nat → Bool
  | [] => true
  | i :: r => !memB i r && nodupB r
theorem memB_iff {i : Nat} : ∀ {l : List Nat}, memB i l = true ↔ i ∈ l
  | [] => by simp [memB]
  | j :: r => by
    unfold memB
    cases hb : Nat.beq i j with
    | true => simp [Nat.eq_of_beq_eq_true hb]
    | false =>
      have hne : i ≠ j := fun e => by rw [e] at hb; simp at hb
      simp only [cond]
      rw [memB_iff (l := r)]
      simp [hne]
theorem nodupB_spec : ∀ {l : List Nat}, nodupB l = true → l.Nodup
  | [], _ => List.nodup_nil
  | i :: r, h => by
    simp only [nodupB, Bool.and_eq_true, Bool.not_eq_true'] at h
    refine List.nodup_cons.2 ⟨fun hm => ?_, nodupB_spec h.2⟩
    rw [memB_iff.2 hm] at h; cases h.1
def obsAt (H : List Ob) (f : Nat → Option Nat) : List Nat → Option (List Ob)
  | [] => some []
  | i :: r => match H[i]? with
    | some ob => match ob.ren f with
      | some ob' => match obsAt H f r with
        | some obs => some (ob' :: obs)
        | none => none
      | none => none
    | none => none
theorem obsAt_get {H : List Ob} {f : Nat → Option Nat} : ∀ {ids : List Nat} {h : List Ob}, obsAt H f ids = some h → h.length = ids.length ∧ ∀ (k i : Nat), ids[k]? = some i → ∃ ob ob', H[i]? = some ob ∧ ob.ren f = some ob' ∧ h[k]? = some ob'
  | [], h, e => by injection e with e; subst e; exact ⟨rfl, by simp⟩
  | j :: r, h, e => by
    unfold obsAt at e
    split at e
    · rename_i ob hob
      split at e
      · rename_i ob' hob'
        split at e
        · rename_i obs hobs
          injection e with e; subst e
          obtain ⟨g1, g2⟩ := obsAt_get hobs
          refine ⟨by simp [g1], fun k i hk => ?_⟩
          cases k with
          | zero => simp at hk; subst hk; exact ⟨ob, ob', hob, hob', rfl⟩
          | succ k => simpa using g2 k i (by simpa using hk)
        · cases e
      · cases e
    · cases e

/-! ### contracts -/
/-- What a call does: its result and the objects that were lent, with those that are new behind them. -/
def PCalls (P : Program) (f : FuncId) (args : List V) (h : List Ob) (R : V → List Ob → Prop) : Prop :=
  (∃ fn, P.funcs[f]? = some fn ∧ (fn.name == "runtime.NumGoroutine") = false ∧ fn.body.isNone = false) ∧
  ∀ (G : Imm) (w : World) (φ : Loc) (vs : List Value), Sit G w φ (hp h) → repVs G φ args vs →
    Calls P f vs.toArray w fun e w' => ∃ v r h' G' φ', e = .returned v ∧ R r h' ∧ h.length ≤ h'.length ∧ Sit G' w' φ' (hp h') ∧ Goes G w φ (hp h) G' w' φ' (hp h') ∧ r.rep G' φ' v
/-- One result. -/
def PFun (P : Program) (f : FuncId) (args : List V) (h : List Ob) (r : V) (h' : List Ob) : Prop := PCalls P f args h fun r' h'' => r' = r ∧ h'' = h'
theorem PCalls.mono {P : Program} {f : FuncId} {args : List V} {h : List Ob} {R R' : V → List Ob → Prop} (c : PCalls P f args h R) (k : ∀ r h', R r h' → R' r h') : PCalls P f args h R' :=
  ⟨c.1, fun G w φ vs hs hr => (c.2 G w φ vs hs hr).mono fun e w' ⟨v, r, h', G', φ', h1, h2, h3⟩ => ⟨v, r, h', G', φ', h1, k _ _ h2, h3⟩⟩
theorem PFun.call {P : Program} {f : FuncId} {args : List V} {h : List Ob} {r : V} {h' : List Ob} {R : V → List Ob → Prop} (c : PFun P f args h r h') (k : R r h') : PCalls P f args h R :=
  PCalls.mono c fun r' h'' ⟨e1, e2⟩ => by rw [e1, e2]; exact k

/-- The numbers on the way back. -/
def back (ids : List Nat) (base : Nat) (i : Nat) : Option Nat := match ids[i]? with
  | some j => some j
  | none => some (base + (i - ids.length))
def obsRen (f : Nat → Option Nat) : List Ob → Option (List Ob)
  | [] => some []
  | ob :: r => match ob.ren f with
    | some ob' => match obsRen f r with
      | some obs => some (ob' :: obs)
      | none => none
    | none => none
theorem obsRen_get {f : Nat → Option Nat} : ∀ {obs obs' : List Ob}, obsRen f obs = some obs' → obs'.length = obs.length ∧ ∀ (k : Nat) ob, obs[k]? = some ob → ∃ ob', ob.ren f = some ob' ∧ obs'[k]? = some ob'
  | [], obs', e => by injection e with e; subst e; exact ⟨rfl, by simp⟩
  | ob :: r, obs', e => by
    unfold obsRen at e
    split at e
    · rename_i ob' hob'
      split at e
      · rename_i obs hobs
        injection e with e; subst e
        obtain ⟨g1, g2⟩ := obsRen_get hobs
        refine ⟨by simp [g1], fun k i hk => ?_⟩
        cases k with
        | zero => simp at hk; subst hk; exact ⟨ob', hob', rfl⟩
        | succ k => simpa using g2 k i (by simpa using hk)
      · cases e
    · cases e
/-- What the caller sees of a call's end. -/
def backE (ids : List Nat) (base : Nat) (r : V) (h' : List Ob) (K : Eff → Prop) : Prop :=
  match r.ren (back ids base), obsRen (back ids base) h' with
  | some x, some obs => condP (Nat.ble ids.length obs.length) (K ⟨x, [], ids.zip obs, obs.drop ids.length⟩)
  | _, _ => False
def lendE (H : List Ob) (xs : List V) (K : List Nat → List V → List Ob → Prop) : Prop :=
  match reach H 1000 (idsL xs) [] with
  | ids => match rens (pos ids) xs, obsAt H (pos ids) ids with
    | some ys, some h => condP (nodupB ids) (K ids ys h)
    | _, _ => False
end Go.Proofs.YtmflfcbebeikcaaGreatDoor.Q

namespace Go.Proofs.YtmflfcbebeikcaaGreatDoor.Q
variable [Amb]
section
variable {P : Program} {tt : TT} {o : Oper} {ρ : Env} {H : List Ob} {K : Eff → Prop}

/-- Where what is lent lies, by the callee's numbers. -/
def lentLoc (φ : Loc) (ids : List Nat) : Loc := fun i => match ids[i]? with
  | some j => φ j
  | none => fun _ => none
theorem lent_moves (φ : Loc) (ids : List Nat) : Moves (pos ids) φ (lentLoc φ ids) := fun id i hi n z hz => by
  unfold lentLoc; rw [pos_get hi]; exact hz
theorem lent_sit {G : Imm} {w : World} {φ : Loc} {Hx : Hp} {ids : List Nat} {h : List Ob} (hs : Sit G w φ Hx) (hnd : ids.Nodup) (ha : ∀ i, i ∈ ids → Hx i = H[i]?) (ho : obsAt H (pos ids) ids = some h) : Sit G w (lentLoc φ ids) (hp h) := by
  obtain ⟨hl, hg⟩ := obsAt_get ho
  have key : ∀ k ob', h[k]? = some ob' → ∃ i ob, ids[k]? = some i ∧ Hx i = some ob ∧ ob.ren (pos ids) = some ob' ∧ ∀ n, lentLoc φ ids k n = φ i n := by
    intro k ob' hk
    have hlt := lt_of_get hk
    rw [hl] at hlt
    have hi : ids[k]? = some ids[k] := List.getElem?_eq_getElem hlt
    obtain ⟨ob, ob2, g1, g2, g3⟩ := hg k _ hi
    rw [hk] at g3; injection g3 with g3; subst g3
    exact ⟨_, ob, hi, (ha _ (List.getElem_mem hlt)).trans g1, g2, fun n => by unfold lentLoc; rw [hi]⟩
  refine ⟨hs.inv, fun k ob' hk => ?_, fun k j ob1 ob2 b hkj h1 h2 o1 o2 => ?_, fun k hk n => ?_⟩
  · obtain ⟨i, ob, g1, g2, g3, g4⟩ := key k ob' hk
    exact Ob.ren_holds (lent_moves φ ids) g4 g3 (hs.holds i ob g2)
  · obtain ⟨i, ob, g1, g2, g3, g4⟩ := key k ob1 h1
    obtain ⟨i', ob', g1', g2', g3', g4'⟩ := key j ob2 h2
    rw [Ob.ren_own g4 g3] at o1
    rw [Ob.ren_own g4' g3'] at o2
    refine hs.dist i i' ob ob' b (fun e => hkj ?_) g2 g2' o1 o2
    subst e
    have l1 := lt_of_get g1
    have l2 := lt_of_get g1'
    rw [List.getElem?_eq_getElem l1] at g1
    rw [List.getElem?_eq_getElem l2] at g1'
    injection g1 with g1
    injection g1' with g1'
    exact (List.getElem_inj hnd).1 (g1.trans g1'.symm)
  · unfold lentLoc
    rw [List.getElem?_eq_none]
    have : h.length ≤ k := by
      rcases Nat.lt_or_ge k h.length with hlt | hge
      · rw [show hp h k = h[k]? from rfl, List.getElem?_eq_getElem hlt] at hk; cases hk
      · exact hge
    omega
theorem mem_pos : ∀ {ids : List Nat} {i : Nat}, i ∈ ids → ∃ k, pos ids i = some k := by
  intro ids i hm
  cases hp : pos ids i with
  | some k => exact ⟨k, rfl⟩
  | none => exact absurd hm (pos_none hp)
theorem lkO_zip : ∀ {ids : List Nat} {obs : List Ob} {i : Nat}, ids.length ≤ obs.length → lkO (ids.zip obs) i = match pos ids i with | some k => obs[k]? | none => none
  | [], obs, i, _ => by simp [lkO, pos]
  | j :: r, [], i, h => by simp at h
  | j :: r, ob :: obs, i, h => by
    rw [List.zip_cons_cons, lkO_cons]
    unfold pos
    by_cases hji : j = i
    · subst hji; simp
    · have : Nat.beq j i = false := by
        cases hb : Nat.beq j i with
        | false => rfl
        | true => exact absurd (Nat.eq_of_beq_eq_true hb) hji
      rw [if_neg hji, this]
      dsimp only [cond]
      rw [lkO_zip (ids := r) (by simpa using h)]
      cases pos r i <;> simp
/-- Where all lies behind the call, by the caller's numbers. -/
def backLoc (φ φc : Loc) (ids : List Nat) (base m : Nat) : Loc := fun j => match pos ids j with
  | some i => φc i
  | none => if base ≤ j ∧ j < base + m then φc (ids.length + (j - base)) else φ j
theorem call_back {G G' : Imm} {w w' : World} {φ φc : Loc} {Hx : Hp} {ids : List Nat} {h h' obs : List Ob} {x : V} (hs : Sit G w φ Hx) (hnd : ids.Nodup) (hlt : ∀ i ∈ ids, i < H.length) (ha : ∀ i, i ∈ ids → Hx i = H[i]?) (ho : obsAt H (pos ids) ids = some h)
    (hs' : Sit G' w' φc (hp h')) (hgo : Goes G w (lentLoc φ ids) (hp h) G' w' φc (hp h')) (hlen : h.length ≤ h'.length) (hob : obsRen (back ids H.length) h' = some obs) (hnew : ∀ i, H.length ≤ i → i < H.length + (obs.drop ids.length).length → Hx i = none) :
    Sit G' w' (backLoc φ φc ids H.length (obs.drop ids.length).length) (upd Hx H.length ⟨x, [], ids.zip obs, obs.drop ids.length⟩) ∧ Goes G w φ Hx G' w' (backLoc φ φc ids H.length (obs.drop ids.length).length) (upd Hx H.length ⟨x, [], ids.zip obs, obs.drop ids.length⟩) ∧ Moves (back ids H.length) φc (backLoc φ φc ids H.length (obs.drop ids.length).length) := by
  obtain ⟨hl, hg⟩ := obsAt_get ho
  obtain ⟨hol, hog⟩ := obsRen_get hob
  have hil : ids.length ≤ obs.length := by omega
  have hdl : (obs.drop ids.length).length = obs.length - ids.length := List.length_drop
  generalize hm : (obs.drop ids.length).length = m at *
  -- the caller's number j is the callee's number i
  have upd_lent : ∀ j i, pos ids j = some i → upd Hx H.length ⟨x, [], ids.zip obs, obs.drop ids.length⟩ j = obs[i]? := by
    intro j i hj
    have hi := lt_of_get (pos_get hj)
    simp only [upd, lkO_zip hil, hj]
    rw [List.getElem?_eq_getElem (by omega : i < obs.length)]
  have upd_new : ∀ j, pos ids j = none → H.length ≤ j → j < H.length + m → upd Hx H.length ⟨x, [], ids.zip obs, obs.drop ids.length⟩ j = obs[ids.length + (j - H.length)]? := by
    intro j hj h1 h2
    simp only [upd, lkO_zip hil, hj, hm]
    rw [if_pos ⟨h1, h2⟩, List.getElem?_drop]
  have upd_old : ∀ j, pos ids j = none → ¬ (H.length ≤ j ∧ j < H.length + m) → upd Hx H.length ⟨x, [], ids.zip obs, obs.drop ids.length⟩ j = Hx j := by
    intro j hj h1
    simp only [upd, lkO_zip hil, hj, hm]
    rw [if_neg h1]
  have loc_lent : ∀ j i, pos ids j = some i → backLoc φ φc ids H.length m j = φc i := fun j i hj => by unfold backLoc; rw [hj]
  have loc_new : ∀ j, pos ids j = none → H.length ≤ j → j < H.length + m → backLoc φ φc ids H.length m j = φc (ids.length + (j - H.length)) := fun j hj h1 h2 => by unfold backLoc; rw [hj]; exact if_pos ⟨h1, h2⟩
  have loc_old : ∀ j, pos ids j = none → ¬ (H.length ≤ j ∧ j < H.length + m) → backLoc φ φc ids H.length m j = φ j := fun j hj h1 => by unfold backLoc; rw [hj]; exact if_neg h1
  have posNew : ∀ j, H.length ≤ j → pos ids j = none := fun j hj => by
    cases hp : pos ids j with
    | none => rfl
    | some k => have := hlt j (List.mem_of_getElem? (pos_get hp)); omega
  have hbackloc : ∀ i, i < obs.length → ∃ j, back ids H.length i = some j ∧ backLoc φ φc ids H.length m j = φc i ∧ upd Hx H.length ⟨x, [], ids.zip obs, obs.drop ids.length⟩ j = obs[i]? := by
    intro i hi
    by_cases h1 : i < ids.length
    · have e1 : ids[i]? = some ids[i] := List.getElem?_eq_getElem h1
      obtain ⟨k, hk⟩ := mem_pos (List.getElem_mem h1)
      have e2 := pos_get hk
      have hki : k = i := by
        have l2 := lt_of_get e2
        rw [List.getElem?_eq_getElem l2] at e2
        injection e2 with e2
        exact (List.getElem_inj hnd).1 e2
      subst hki
      exact ⟨ids[k], by unfold back; rw [e1], loc_lent _ _ hk, upd_lent _ _ hk⟩
    · have e1 : ids[i]? = none := List.getElem?_eq_none (by omega)
      have hp := posNew (H.length + (i - ids.length)) (by omega)
      refine ⟨H.length + (i - ids.length), by unfold back; rw [e1], ?_, ?_⟩
      · rw [loc_new _ hp (by omega) (by omega)]; congr 1; omega
      · rw [upd_new _ hp (by omega) (by omega)]; congr 1; omega
  have hmov : Moves (back ids H.length) φc (backLoc φ φc ids H.length m) := by
    intro i j hij n z hz
    have hi : i < obs.length := by
      rcases Nat.lt_or_ge i obs.length with h1 | h1
      · exact h1
      · have := hs'.un i (List.getElem?_eq_none (by omega)) n
        rw [this] at hz; cases hz
    obtain ⟨j', e1, e2, _⟩ := hbackloc i hi
    rw [hij] at e1; injection e1 with e1; subst e1
    rw [e2]; exact hz
  -- what the touched objects are, in the callee's world
  have touched : ∀ j ob, ((∃ i, pos ids j = some i) ∨ (H.length ≤ j ∧ j < H.length + m)) → upd Hx H.length ⟨x, [], ids.zip obs, obs.drop ids.length⟩ j = some ob →
      ∃ (i : Nat) (obc : Ob), h'[i]? = some obc ∧ obc.ren (back ids H.length) = some ob ∧ (∀ n, backLoc φ φc ids H.length m j n = φc i n) ∧ back ids H.length i = some j := by
    intro j ob hj hob1
    have fin : ∀ i : Nat, obs[i]? = some ob → ∃ obc : Ob, h'[i]? = some obc ∧ obc.ren (back ids H.length) = some ob := by
      intro i hi
      have hi2 := lt_of_get hi
      obtain ⟨ob2, g1, g2⟩ := hog i h'[i] (List.getElem?_eq_getElem (by omega))
      rw [hi] at g2; injection g2 with g2; subst g2
      exact ⟨_, List.getElem?_eq_getElem (by omega), g1⟩
    rcases hj with ⟨i, hi⟩ | ⟨h1, h2⟩
    · rw [upd_lent j i hi] at hob1
      obtain ⟨obc, g1, g2⟩ := fin i hob1
      exact ⟨i, obc, g1, g2, fun n => by rw [loc_lent j i hi], by unfold back; rw [pos_get hi]⟩
    · rw [upd_new j (posNew j h1) h1 h2] at hob1
      obtain ⟨obc, g1, g2⟩ := fin _ hob1
      refine ⟨_, obc, g1, g2, fun n => by rw [loc_new j (posNew j h1) h1 h2], ?_⟩
      have e0 : ids[ids.length + (j - H.length)]? = none := List.getElem?_eq_none (by omega)
      unfold back
      rw [e0]
      show some (H.length + (ids.length + (j - H.length) - ids.length)) = some j
      rw [show H.length + (ids.length + (j - H.length) - ids.length) = j by omega]
  have hst := hs.step (G' := G') (w' := w') (φ' := backLoc φ φc ids H.length m) (H' := upd Hx H.length ⟨x, [], ids.zip obs, obs.drop ids.length⟩) (fun j => (∃ i, pos ids j = some i) ∨ (H.length ≤ j ∧ j < H.length + m)) hgo.le
    (fun j n z hz => by
      cases hp : pos ids j with
      | some i =>
        rw [loc_lent j i hp]
        refine hgo.ple i n z ?_
        unfold lentLoc; rw [pos_get hp]; exact hz
      | none =>
        by_cases hj : H.length ≤ j ∧ j < H.length + m
        · have := hs.un j (hnew j hj.1 hj.2) n
          rw [this] at hz; cases hz
        · rw [loc_old j hp hj]; exact hz)
    (fun j hj n => by
      have h1 : pos ids j = none := by
        cases hp : pos ids j with
        | none => rfl
        | some i => exact absurd (Or.inl ⟨i, hp⟩) hj
      rw [loc_old j h1 (fun h2 => hj (.inr h2))])
    hgo.os hgo.tape hgo.output hgo.size
    (fun b hb hno => hgo.block b hb (fun ⟨i, obc, hi, hown⟩ => by
      have hi1 := lt_of_get hi
      have hi2 : i < ids.length := by omega
      have e1 : ids[i]? = some ids[i] := List.getElem?_eq_getElem hi2
      obtain ⟨ob, ob', g1, g2, g3⟩ := hg i _ e1
      have hi' : h[i]? = some obc := hi
      rw [hi'] at g3; injection g3 with g3; subst g3
      obtain ⟨k, hk⟩ := mem_pos (List.getElem_mem hi2)
      refine hno ids[i] ob (.inl ⟨k, hk⟩) ((ha _ (List.getElem_mem hi2)).trans g1) ?_
      rw [← Ob.ren_own (φ2 := lentLoc φ ids) (i := i) (fun n => by unfold lentLoc; rw [e1]) g2]
      exact hown))
    (fun j hj => by
      have h1 : pos ids j = none := by
        cases hp : pos ids j with
        | none => rfl
        | some i => exact absurd (Or.inl ⟨i, hp⟩) hj
      exact upd_old j h1 (fun h2 => hj (.inr h2)))
    hs'.inv
    (fun j ob hj hob1 => by
      obtain ⟨i, obc, g1, g2, g3, g4⟩ := touched j ob hj hob1
      exact Ob.ren_holds hmov g3 g2 (hs'.holds i obc g1))
    (fun j1 j2 ob1 ob2 b hj1 hj2 hne h1 h2 o1 o2 => by
      obtain ⟨i1, c1, a1, a2, a3, a4⟩ := touched j1 ob1 hj1 h1
      obtain ⟨i2, c2, b1, b2, b3, b4⟩ := touched j2 ob2 hj2 h2
      rw [Ob.ren_own a3 a2] at o1
      rw [Ob.ren_own b3 b2] at o2
      exact hs'.dist i1 i2 c1 c2 b (fun e => hne (by rw [e, b4] at a4; injection a4 with a4; exact a4.symm)) a1 b1 o1 o2)
    (fun j ob b hj h1 o1 => by
      obtain ⟨i, c, a1, a2, a3, a4⟩ := touched j ob hj h1
      rw [Ob.ren_own a3 a2] at o1
      rcases hgo.owns b ⟨i, c, a1, o1⟩ with ⟨k, obc, hk, hown⟩ | hge
      · have hk1 := lt_of_get hk
        have hk2 : k < ids.length := by omega
        have e1 : ids[k]? = some ids[k] := List.getElem?_eq_getElem hk2
        obtain ⟨ob0, ob', g1, g2, g3⟩ := hg k _ e1
        have hk' : h[k]? = some obc := hk
        rw [hk'] at g3; injection g3 with g3; subst g3
        obtain ⟨k', hk''⟩ := mem_pos (List.getElem_mem hk2)
        refine .inl ⟨ids[k], ob0, .inl ⟨k', hk''⟩, (ha _ (List.getElem_mem hk2)).trans g1, ?_⟩
        rw [← Ob.ren_own (φ2 := lentLoc φ ids) (i := k) (fun n => by unfold lentLoc; rw [e1]) g2]
        exact hown
      · exact .inr hge)
    (fun j hj h1 n => by
      exfalso
      rcases hj with ⟨i, hi⟩ | ⟨a1, a2⟩
      · rw [upd_lent j i hi] at h1
        have := lt_of_get (pos_get hi)
        rw [List.getElem?_eq_getElem (by omega : i < obs.length)] at h1; cases h1
      · rw [upd_new j (posNew j a1) a1 a2, List.getElem?_eq_getElem (by omega)] at h1; cases h1)
  exact ⟨hst.1, hst.2, hmov⟩
end
end Go.Proofs.YtmflfcbebeikcaaGreatDoor.Q

namespace Go.Proofs.YtmflfcbebeikcaaGreatDoor.Q
variable [Amb]

/-! ### writes in the text's order, of those that have been -/
section cur
variable {ι α : Type} (init : ι → α) (wr : Nat → ι → Option α)
def cur (D : Nat → Bool) : Nat → ι → α
  | 0, l => init l
  | k + 1, l => match D k, wr k l with
    | true, some v => v
    | _, _ => cur D k l
variable {init wr}
theorem cur_skip {D : Nat → Bool} {k : Nat} {l : ι} (h : D k = true → wr k l = none) : cur init wr D (k + 1) l = cur init wr D k l := by
  simp only [cur]
  cases hD : D k with
  | false => rfl
  | true => rw [h hD]
theorem cur_upto {D : Nat → Bool} {j : Nat} {l : ι} (h : ∀ k, k < j → D k = false → wr k l = none) : cur init wr D j l = cur init wr (fun _ => true) j l := by
  induction j with
  | zero => rfl
  | succ j ih =>
    have ih := ih fun k hk => h k (Nat.lt_succ_of_lt hk)
    simp only [cur]
    cases hw : wr j l with
    | none => cases D j <;> exact ih
    | some v =>
      cases hD : D j with
      | true => rfl
      | false => have := h j (Nat.lt_succ_self _) hD; rw [hw] at this; cases this
theorem cur_from {D : Nat → Bool} {j n : Nat} {l : ι} (hjn : j ≤ n) (h : ∀ k, j ≤ k → k < n → D k = true → wr k l = none) : cur init wr D n l = cur init wr D j l := by
  induction n with
  | zero => have : j = 0 := by omega
            subst this; rfl
  | succ n ih =>
    by_cases hj : j = n + 1
    · subst hj; rfl
    · rw [cur_skip (fun hD => h n (by omega) (Nat.lt_succ_self _) hD)]
      exact ih (by omega) fun k h1 h2 => h k h1 (Nat.lt_succ_of_lt h2)
theorem cur_read {D : Nat → Bool} {j n : Nat} {l : ι} (hjn : j ≤ n) (h1 : ∀ k, k < j → D k = false → wr k l = none) (h2 : ∀ k, j ≤ k → k < n → D k = true → wr k l = none) : cur init wr D n l = cur init wr (fun _ => true) j l :=
  (cur_from hjn h2).trans (cur_upto h1)
def also (D : Nat → Bool) (j : Nat) : Nat → Bool := fun k => if k = j then true else D k
theorem cur_other {D : Nat → Bool} {j n : Nat} {l : ι} (h : wr j l = none) : cur init wr (also D j) n l = cur init wr D n l := by
  induction n with
  | zero => rfl
  | succ n ih =>
    simp only [cur, also, ih]
    by_cases hj : n = j
    · subst hj; rw [h]; simp
    · rw [if_neg hj]
theorem cur_same {D : Nat → Bool} {j n : Nat} {l : ι} {v : α} (h : wr j l = some v) (hjn : j < n) (h2 : ∀ k, j < k → k < n → D k = true → wr k l = none) : cur init wr (also D j) n l = v := by
  rw [cur_from (j := j + 1) hjn (fun k h1 h3 h4 => h2 k h1 h3 (by unfold also at h4; rw [if_neg (by omega)] at h4; exact h4))]
  simp only [cur, also, h, if_true]
end cur

/-! ### who waits for whom -/
def edges (o : Oper) : List Nat := (o.after.toList.filter fun e => Region.binds .any e).map (·.on)
/-- All that an operation waits for, as a number's bits. -/
def edgeMask (acc : List Nat) : List Nat → Nat
  | [] => 0
  | i :: r => Nat.lor (Nat.lor (2 ^ i) (acc.getD i 0)) (edgeMask acc r)
def masksGo (acc : List Nat) : List Oper → List Nat
  | [] => acc
  | o :: r => masksGo (acc ++ [edgeMask acc (edges o)]) r
def masks (ops : List Oper) : List Nat := masksGo [] ops
def waits (ops : List Oper) (j i : Nat) : Bool := Nat.testBit ((masks ops).getD j 0) i
def reads (ops : List Oper) (o : Oper) : List Nat :=
  (o.op.operands.toList.filterMap fun | .tmp t => some t | _ => none) ++ (match o.guard with | some (g, _) => (match ops[g]? with | some p => p.dst.toList | none => []) | none => [])
def disjB (a b : List Nat) : Bool := a.all fun i => !memB i b
/-- The slots of operations apart are apart; who waits, waits for one ahead. -/
def slotsB (ops : List Oper) : Bool :=
  let ms := masks ops
  (List.range ops.length).all fun j => match ops[j]? with
    | some o => (edges o).all (fun i => Nat.blt i j) && (List.range j).all fun i => match ops[i]? with
      | some p => (disjB p.dst.toList (o.dst.toList ++ reads ops o) && disjB o.dst.toList (reads ops p)) || Nat.testBit (ms.getD j 0) i
      | none => true
    | none => true
theorem disjB_spec {a b : List Nat} (h : disjB a b = true) : ∀ i, i ∈ a → i ∈ b → False := by
  intro i h1 h2
  have := List.all_eq_true.1 h i h1
  rw [memB_iff.2 h2] at this; cases this
theorem edgeMask_bit {acc : List Nat} {i : Nat} : ∀ {es : List Nat}, Nat.testBit (edgeMask acc es) i = true → ∃ k ∈ es, i = k ∨ Nat.testBit (acc.getD k 0) i = true
  | [], h => by simp [edgeMask] at h
  | e :: r, h => by
    have h1 : Nat.testBit ((2 ^ e ||| acc.getD e 0) ||| edgeMask acc r) i = true := h
    rw [Nat.testBit_or, Nat.testBit_or, Bool.or_eq_true, Bool.or_eq_true] at h1
    rcases h1 with (h1 | h1) | h1
    · refine ⟨e, List.mem_cons_self, .inl ?_⟩
      rw [Nat.testBit_two_pow] at h1
      exact (of_decide_eq_true h1).symm
    · exact ⟨e, List.mem_cons_self, .inr h1⟩
    · obtain ⟨k, hk, h2⟩ := edgeMask_bit h1
      exact ⟨k, List.mem_cons_of_mem _ hk, h2⟩
theorem masksGo_get : ∀ (l : List Oper) (acc : List Nat), (∀ i, i < acc.length → (masksGo acc l).getD i 0 = acc.getD i 0) ∧ ∀ m o, l[m]? = some o → ∃ acc', (∀ i, Nat.testBit (acc'.getD i 0) = Nat.testBit (acc'.getD i 0)) ∧ (∀ i, i < acc'.length → acc'.getD i 0 = (masksGo acc l).getD i 0) ∧ (∀ i, acc'.length ≤ i → acc'.getD i 0 = 0) ∧ (masksGo acc l).getD (acc.length + m) 0 = edgeMask acc' (edges o)
  | [], acc => ⟨fun i _ => rfl, by simp⟩
  | o :: r, acc => by
    obtain ⟨h1, h2⟩ := masksGo_get r (acc ++ [edgeMask acc (edges o)])
    have ext : ∀ i, i < acc.length → (acc ++ [edgeMask acc (edges o)]).getD i 0 = acc.getD i 0 := by
      intro i hi
      simp only [List.getD_eq_getElem?_getD]
      rw [List.getElem?_append_left hi]
    have low : ∀ i, i < acc.length → (masksGo acc (o :: r)).getD i 0 = acc.getD i 0 := by
      intro i hi
      show (masksGo (acc ++ [edgeMask acc (edges o)]) r).getD i 0 = _
      rw [h1 i (by simp; omega), ext i hi]
    refine ⟨low, fun m o' hm => ?_⟩
    cases m with
    | zero =>
      simp at hm; subst hm
      refine ⟨acc, fun _ => rfl, fun i hi => (low i hi).symm, fun i hi => by simp [List.getD_eq_getElem?_getD, List.getElem?_eq_none hi], ?_⟩
      show (masksGo (acc ++ [edgeMask acc (edges o)]) r).getD _ 0 = _
      rw [h1 _ (by simp)]
      simp [List.getD_eq_getElem?_getD]
    | succ m =>
      obtain ⟨acc', a1, a2, a3, a4⟩ := h2 m o' (by simpa using hm)
      refine ⟨acc', a1, a2, a3, ?_⟩
      rw [← a4]
      show (masksGo (acc ++ [edgeMask acc (edges o)]) r).getD _ 0 = _
      congr 1
      simp; omega
theorem masks_get {ops : List Oper} {j : Nat} {o : Oper} (h : ops[j]? = some o) : ∃ acc, (∀ i, acc.getD i 0 = (masks ops).getD i 0 ∨ acc.getD i 0 = 0) ∧ (masks ops).getD j 0 = edgeMask acc (edges o) := by
  obtain ⟨acc', _, a2, a3, a4⟩ := (masksGo_get ops []).2 j o h
  refine ⟨acc', fun i => ?_, by simpa [masks] using a4⟩
  rcases Nat.lt_or_ge i acc'.length with h1 | h1
  · exact .inl (a2 i h1)
  · exact .inr (a3 i h1)
theorem anc_closed {ops : List Oper} {D : Nat → Bool} (hD : ∀ j o, ops[j]? = some o → D j = true → ∀ i ∈ edges o, D i = true) (hB : ∀ j o, ops[j]? = some o → ∀ i ∈ edges o, i < j) : ∀ (j : Nat) (o : Oper), ops[j]? = some o → (∀ i ∈ edges o, D i = true) → ∀ i, waits ops j i = true → D i = true := by
  intro j
  induction j using Nat.strongRecOn with
  | _ j ih =>
    intro o ho he i hi
    obtain ⟨acc, a1, a2⟩ := masks_get ho
    unfold waits at hi
    rw [a2] at hi
    obtain ⟨k, hk, h⟩ := edgeMask_bit hi
    rcases h with rfl | h
    · exact he _ hk
    · have hkj := hB j o ho k hk
      have hok : ops[k]? = some (ops[k]'(by have := (List.getElem?_eq_some_iff.1 ho).1; omega)) := List.getElem?_eq_getElem _
      rcases a1 k with h1 | h1
      · rw [h1] at h
        exact ih k hkj _ hok (hD k _ hok (he k hk)) i h
      · rw [h1] at h; simp at h
end Go.Proofs.YtmflfcbebeikcaaGreatDoor.Q

namespace Go.Proofs.YtmflfcbebeikcaaGreatDoor.Q
variable [Amb]
def ev1 (ρ : Env) (x : Operand) (k : V → Prop) : Prop := match ev ρ x with
  | some X => k X
  | none => False
def ev2 (ρ : Env) (x y : Operand) (k : V → V → Prop) : Prop := match ev ρ x, ev ρ y with
  | some X, some Y => k X Y
  | _, _ => False
def evsP (ρ : Env) (xs : List Operand) (k : List V → Prop) : Prop := match evs ρ xs with
  | some X => k X
  | none => False
def evPartsP (ρ : Env) (xs : List (Nat × Operand)) (k : List (Nat × V) → Prop) : Prop := match evParts ρ xs with
  | some X => k X
  | none => False
theorem ev1_out {ρ : Env} {x : Operand} {k : V → Prop} (h : ev1 ρ x k) : ∃ X, ev ρ x = some X ∧ k X := by
  unfold ev1 at h; split at h
  · rename_i X hX; exact ⟨X, hX, h⟩
  · exact h.elim
theorem ev2_out {ρ : Env} {x y : Operand} {k : V → V → Prop} (h : ev2 ρ x y k) : ∃ X Y, ev ρ x = some X ∧ ev ρ y = some Y ∧ k X Y := by
  unfold ev2 at h; split at h
  · rename_i X Y hX hY; exact ⟨X, Y, hX, hY, h⟩
  · exact h.elim
theorem evsP_out {ρ : Env} {xs : List Operand} {k : List V → Prop} (h : evsP ρ xs k) : ∃ X, evs ρ xs = some X ∧ k X := by
  unfold evsP at h; split at h
  · rename_i X hX; exact ⟨X, hX, h⟩
  · exact h.elim
theorem evPartsP_out {ρ : Env} {xs : List (Nat × Operand)} {k : List (Nat × V) → Prop} (h : evPartsP ρ xs k) : ∃ X, evParts ρ xs = some X ∧ k X := by
  unfold evPartsP at h; split at h
  · rename_i X hX; exact ⟨X, hX, h⟩
  · exact h.elim

/-! ### one of two -/
def optK (K : Eff → Prop) : Option V → Prop
  | some X => kv K X
  | none => False
def pPick (C : V) (X Y : Option V) (K : Eff → Prop) : Prop :=
  match C with
  | .d (.bool b) => brP b (optK K X) (optK K Y)
  | _ => False
/-! ### max, min -/
def intsOf (k : IntKind) : List V → Option (List Int)
  | [] => some []
  | .d (.int j n) :: r => bif kindEq j k then (match intsOf k r with | some ns => some (n :: ns) | none => none) else none
  | _ => none
def maxI (x : Int) : List Int → Int
  | [] => x
  | y :: ys => maxI (if y > x then y else x) ys
def minI (x : Int) : List Int → Int
  | [] => x
  | y :: ys => minI (if y < x then y else x) ys
def pMM (mx : Bool) (xs : List V) (K : Eff → Prop) : Prop :=
  match xs with
  | .d (.int k n) :: r => match intsOf k r with
    | some ns => kv K (.d (.int k (match mx with | true => maxI n ns | false => minI n ns)))
    | none => False
  | _ => False

/-! ### calls -/
/-- An argument, as it is handed on: what is written out as a nil slice stays one. -/
def plainO (o : Operand) (x : V) : V := match o with
  | .const v => match v with
    | .slice _ _ _ => x
    | _ => x.plain
  | _ => x.plain
def plainsO : List Operand → List V → List V
  | o :: os, x :: xs => plainO o x :: plainsO os xs
  | _, xs => plains xs
theorem plainO_rep {G : Imm} {φ : Loc} (o : Operand) (x : V) (v : Value) (h : x.rep G φ v) : (plainO o x).rep G φ v := by
  unfold plainO
  split
  · split
    · exact h
    · exact V.plain_rep x v h
  · exact V.plain_rep x v h
theorem plainsO_rep {G : Imm} {φ : Loc} : ∀ (os : List Operand) (xs : List V) (us : List Value), repVs G φ xs us → repVs G φ (plainsO os xs) us
  | [], xs, us, h => plains_rep xs us h
  | o :: os, [], us, h => h
  | o :: os, x :: xs, us, ⟨u, us', e, h1, h2⟩ => ⟨u, us', e, plainO_rep o x u h1, plainsO_rep os xs us' h2⟩
def fnArgs (ρ : Env) (c : Call) : Option (FuncId × List V) :=
  match c.callee with
  | .value f => match ev ρ f with
    | some (.fn (.func g) first captured) => match evs ρ c.args.toList with
      | some xs => some (g, plains first ++ plainsO c.args.toList xs ++ plains captured)
      | none => none
    | _ => none
  | _ => none
/-- One result, whatever the order. -/
def callE (P : Program) (ρ : Env) (H : List Ob) (c : Call) (K : Eff → Prop) : Prop :=
  match fnArgs ρ c with
  | some (g, zs) => lendE H zs fun ids ys h => ∃ r h', PFun P g ys h r h' ∧ backE ids H.length r h' K
  | none => False
/-- The function that is called back. -/
def callY (P : Program) (ρ : Env) (H : List Ob) (c : Call) (K : Eff → Prop) : Prop :=
  match c.callee with
  | .value f => match ev ρ f with
    | some (.yld id) => match evs ρ c.args.toList, H[id]? with
      | some zs, some (.hist xs) => match rens (fun _ => none) (plains zs) with
        | some ys => (Amb.ok P (xs ++ [ys]) ∧ ∀ m, 0 < m → m ≤ xs.length → Amb.go (xs.take m) = true) ∧
            brP (Amb.go (xs ++ [ys])) (K ⟨.d (.bool true), [], [(id, .hist (xs ++ [ys]))], []⟩) (K ⟨.d (.bool false), [], [(id, .hist (xs ++ [ys]))], []⟩)
        | none => False
      | _, _ => False
    | _ => False
  | _ => False
/-- Results such as R says. -/
def callR (P : Program) (ρ : Env) (H : List Ob) (c : Call) (K : Eff → Prop) : Prop :=
  match fnArgs ρ c with
  | some (g, zs) => lendE H zs fun ids ys h => PCalls P g ys h fun r h' => backE ids H.length r h' K
  | none => callY P ρ H c K
def appB (tt : TT) (t u : TypeId) (X Y : V) (H : List Ob) (K : Eff → Prop) : Prop := match X with
  | .fsl rows => match rows with
    | [] => pApp tt t u (.fsl []) Y H K ∨ pAppArr tt t u (.fsl []) Y H K
    | r :: rs => pApp tt t u (.fsl (r :: rs)) Y H K
  | X => pApp tt t u X Y H K
theorem appB_out {tt : TT} {t u : TypeId} {X Y : V} {H : List Ob} {K : Eff → Prop} (h : appB tt t u X Y H K) : pApp tt t u X Y H K ∨ pAppArr tt t u X Y H K := by
  unfold appB at h
  split at h
  · split at h
    · exact h
    · exact .inl h
  · exact .inl h
def popB (tt : TT) (ρ : Env) (H : List Ob) (b : Builtin) (args : List Operand) (tys : List TypeId) (K : Eff → Prop) : Prop :=
  match b, args, tys with
  | .len, [x], [t] => ev1 ρ x fun X => pLen tt t X K
  | .append, [x, y], [t, u] => ev2 ρ x y fun X Y => appB tt t u X Y H K
  | .max, xs, _ => evsP ρ xs fun X => pMM true X K
  | .min, xs, _ => evsP ρ xs fun X => pMM false X K
  | _, _, _ => False
/-- What an operation does. -/
def popE (P : Program) (tt : TT) (ρ : Env) (H : List Ob) (o : Op) (K : Eff → Prop) : Prop :=
  match o with
  | .move x => ev1 ρ x fun X => kv K X
  | .assign x => ev1 ρ x fun X => kv K X
  | .alloc t => pAlloc tt t H K
  | .box t x => ev1 ρ x fun X => pBox tt t X H K
  | .build t ps => evPartsP ρ ps.toList fun X => pBuild tt t X K
  | .buildSlice t n ps => evPartsP ρ ps.toList fun X => pBS tt t n X K
  | .load t x => ev1 ρ x fun X => pLoad tt t X H K
  | .store t x y => ev2 ρ x y fun X Y => pStore tt t X Y H K
  | .nilCheck x => ev1 ρ x fun X => pNil X K
  | .binOp op t x y _ => ev2 ρ x y fun X Y => pBin tt op t X Y K
  | .unOp op _ x => ev1 ρ x fun X => pUn op X K
  | .pick c x y => ev1 ρ c fun C => pPick C (ev ρ x) (ev ρ y) K
  | .convert s t x => ev1 ρ x fun X => pConvB tt s t X K
  | .makeFunc f a b => evsP ρ a.toList fun X => evsP ρ b.toList fun Y => kv K (.fn f X Y)
  | .makeSlice t x y => ev2 ρ x y fun X Y => pMake tt t (isZero x) X Y H K
  | .slice t x lo hi none => ev1 ρ x fun X => match bnd ρ lo, bnd ρ hi with
    | some l, some h => pCut tt t X l h K
    | _, _ => False
  | .fieldAddr s x f => ev1 ρ x fun X => pFA tt s X f K
  | .field s x f => ev1 ρ x fun X => pField tt s X f K
  | .indexAddr t x y => ev2 ρ x y fun X Y => pIA tt t X Y H K
  | .index t x y => ev2 ρ x y fun X Y => pIx tt t X Y K
  | .extract x i => ev1 ρ x fun X => pExt X i K
  | .call c => match c.callee with
    | .builtin b => popB tt ρ H b c.args.toList c.argTypes.toList K
    | _ => callE P ρ H c K
  | .makeMap t r => match r with
    | none => pMkMap tt t none H K
    | some x => ev1 ρ x fun X => pMkMap tt t (some X) H K
  | .lookup t x y ok => ev2 ρ x y fun X Y => pLook tt t X Y ok H K ∨ pLookI tt t X Y ok H K
  | .mapUpdate t x y z => ev2 ρ x y fun X Y => ev1 ρ z fun Z => pMapUp tt t X Y Z H K
  | .insert t x y z => ev2 ρ x y fun X Y => ev1 ρ z fun Z => pMapUp tt t X Y Z H K
  | _ => False
section
variable {P : Program} {tt : TT} {o : Oper} {ρ : Env} {H : List Ob} {K : Eff → Prop}
theorem intsOf_rep {k : IntKind} : ∀ {xs : List V} {ns : List Int}, intsOf k xs = some ns → ∀ {G : Imm} {φ : Loc} {us : List Value}, repVs G φ xs us → us = ns.map (Value.int k)
  | [], ns, h, G, φ, us, hr => by injection h with h; subst h; exact hr
  | x :: xs, ns, h, G, φ, us, hr => by
    unfold intsOf at h
    split at h
    · rename_i h1; cases h1
    · rename_i j n r heq
      injection heq with h1 h2
      subst h1; subst h2
      cases hk : kindEq j k with
      | false => rw [hk] at h; cases h
      | true =>
        rw [hk] at h
        dsimp only [cond] at h
        split at h
        · rename_i ms hms
          injection h with h; subst h
          obtain ⟨u, us', e, h1, h2⟩ := hr
          rw [e, intsOf_rep hms h2]
          have : u = .int j n := h1
          rw [this, kindEq_spec hk]; rfl
        · cases h
    · cases h
theorem run_max (w : World) (k : IntKind) : ∀ (ns : List Int) (n : Int), ((ns.map (Value.int k)).foldlM Builtin.max2 (.int k n)).run P w = .ok (.int k (maxI n ns)) w
  | [], n => rfl
  | m :: ms, n => by
    rw [List.map_cons, List.foldlM_cons, Sem.run_bind]
    show (Result.ok (Value.int k (if m > n then m else n)) w).andThen _ = _
    exact run_max w k ms _
theorem run_min (w : World) (k : IntKind) : ∀ (ns : List Int) (n : Int), ((ns.map (Value.int k)).foldlM Builtin.min2 (.int k n)).run P w = .ok (.int k (minI n ns)) w
  | [], n => rfl
  | m :: ms, n => by
    rw [List.map_cons, List.foldlM_cons, Sem.run_bind]
    show (Result.ok (Value.int k (if m < n then m else n)) w).andThen _ = _
    exact run_min w k ms _
theorem oprep_list {a : Act} {G : Imm} {φ : Loc} : ∀ {os : List Operand} {zs : List V}, (∀ x ∈ os, x ∈ o.op.operands) → OpRep o ρ a G φ → evs ρ os = some zs → repVs G φ zs (os.map a.eval)
  | [], zs, _, _, hz => by simp [evs] at hz; subst hz; rfl
  | x :: os, zs, hm, hr, hz => by
    unfold evs at hz
    split at hz
    · rename_i X hX
      split at hz
      · rename_i ws hws
        injection hz with hz; subst hz
        exact ⟨_, _, rfl, hr x X (hm x List.mem_cons_self) hX, oprep_list (fun y hy => hm y (List.mem_cons_of_mem _ hy)) hr hws⟩
      · cases hz
    · cases hz
theorem pMM_sem {mx : Bool} {args : Array Operand} {tys : Array TypeId} {xs : List V} (ho : o.op = .call { callee := .builtin (match mx with | true => .max | false => .min), args := args, argTypes := tys }) (hx : evs ρ args.toList = some xs) (h : pMM mx xs K) : ∃ e, K e ∧ Tri P o ρ H e := by
  unfold pMM at h
  split at h
  · rename_i k n r
    split at h
    · rename_i ns hns
      refine kv_sem h fun a G w φ hi hr => ⟨_, ?_, rfl⟩
      have hm : ∀ x ∈ args.toList, x ∈ o.op.operands := by
        intro x hx
        rw [ho]
        simp only [Op.operands, Call.operands]
        cases mx <;> simpa using hx
      have hrep := oprep_list hm hr hx
      obtain ⟨u, us, e1, e2, e3⟩ := hrep
      have e2 : u = .int k n := e2
      have e4 := intsOf_rep hns e3
      have hargs : (args.map a.eval).toList = .int k n :: ns.map (Value.int k) := by rw [Array.toList_map, e1, e2, e4]
      unfold execOp
      rw [ho]
      cases mx with
      | true => simp only [resolve, invoke, builtin, Builtin.max_, Sem.run_bind, Sem.run_pure, Result.andThen_ok, hargs, run_max]
      | false => simp only [resolve, invoke, builtin, Builtin.min_, Sem.run_bind, Sem.run_pure, Result.andThen_ok, hargs, run_min]
    · exact h.elim
  · exact h.elim
theorem lendE_out {zs : List V} {k : List Nat → List V → List Ob → Prop} (h : lendE H zs k) : ∃ ids ys hh, rens (pos ids) zs = some ys ∧ obsAt H (pos ids) ids = some hh ∧ ids.Nodup ∧ k ids ys hh := by
  unfold lendE at h
  dsimp only at h
  split at h
  · rename_i ys hh h1 h2
    obtain ⟨h3, h4⟩ := condP_out h
    exact ⟨_, ys, hh, h1, h2, nodupB_spec h3, h4⟩
  · exact h.elim
theorem fnArgs_run {c : Call} {g : FuncId} {zs : List V} (ho : o.op = .call c) (h : fnArgs ρ c = some (g, zs)) {a : Act} {G : Imm} {φ : Loc} (hr : OpRep o ρ a G φ) (hf : ∃ fn, P.funcs[g]? = some fn ∧ (fn.name == "runtime.NumGoroutine") = false ∧ fn.body.isNone = false) (w : World) :
    ∃ vs : List Value, repVs G φ zs vs ∧ (execOp a.eval o).run P w = .ok (.enter g vs.toArray) w := by
  unfold fnArgs at h
  split at h
  · rename_i f hcal
    split at h
    · rename_i g' first captured hf1
      split at h
      · rename_i xs hxs
        injection h with h
        injection h with h1 h2
        subst h1; subst h2
        have hfm : f ∈ o.op.operands := by rw [ho]; simp [Op.operands, Call.operands, hcal]
        obtain ⟨us, vs, e1, e2, e3⟩ := hr f _ hfm hf1
        have hx := oprep_list (o := o) (a := a) (G := G) (φ := φ) (fun x hx => by rw [ho]; simp [Op.operands, Call.operands]; right; simpa using hx) hr hxs
        refine ⟨us ++ c.args.toList.map a.eval ++ vs, repVs_append (repVs_append (plains_rep _ _ e2) (plainsO_rep _ _ _ hx)) (plains_rep _ _ e3), ?_⟩
        obtain ⟨fn, f1, f2, f3⟩ := hf
        unfold execOp
        rw [ho]
        simp only [Sem.run_bind, resolve, hcal, e1, Deferred.ofValue, Sem.run_pure, Result.andThen_ok, invoke, callFunc, run_program, f1, f2, f3, Bool.false_eq_true, if_false]
        congr 2
        apply Array.ext'
        simp
      · cases h
    · cases h
  · cases h
theorem callE_sem {c : Call} (ho : o.op = .call c) (h : callE P ρ H c K) : ∃ e, K e ∧ Tri P o ρ H e := by
  unfold callE at h
  split at h
  · rename_i g zs hargs
    obtain ⟨ids, ys, hh, h1, h2, h3, r, h', hc, hb⟩ := lendE_out h
    unfold backE at hb
    split at hb
    · rename_i x obs hx hobs
      obtain ⟨hlen, hb⟩ := condP_out hb
      have hlen := Nat.le_of_ble_eq_true hlen
      obtain ⟨g1, g2⟩ := obsAt_get h2
      have hlt : ∀ i ∈ ids, i < H.length := fun i hi => by
        obtain ⟨k, hk⟩ := List.getElem?_of_mem hi
        obtain ⟨ob, _, h4, _⟩ := g2 k i hk
        exact lt_of_get h4
      have hol := (obsRen_get hobs).1
      refine ⟨_, hb, ⟨by simp, fun p hp => hlt _ (List.of_mem_zip hp).1, fun a G w φ Hx K Q hs hr ha hf hK => ?_⟩⟩
      obtain ⟨vs, v1, v2⟩ := fnArgs_run (P := P) ho hargs hr hc.1 w
      unfold Oper.wp
      rw [v2, Oper.upon_enter]
      have hag : ∀ i, i ∈ ids → Hx i = H[i]? := fun i hi => by
        refine ha i (.inr ?_)
        obtain ⟨k, hk⟩ := List.getElem?_of_mem hi
        have hkl := lt_of_get hk
        refine ⟨(i, obs[k]), ?_, rfl⟩
        have : (ids.zip obs)[k]? = some (i, obs[k]) := by
          rw [List.getElem?_zip_eq_some]
          exact ⟨hk, List.getElem?_eq_getElem (by omega)⟩
        exact List.mem_of_getElem? this
      have hls := lent_sit hs h3 hag h2
      refine (hc.2 G w (lentLoc φ ids) vs hls (rens_rep (lent_moves φ ids) _ _ _ h1 v1)).mono fun e w' ⟨v, r', h'', G', φ', e1, ⟨e2, e3⟩, e4, e5, e6, e7⟩ => ?_
      subst e1; subst e2; subst e3
      obtain ⟨q1, q2, q3⟩ := call_back (x := x) hs h3 hlt hag h2 e5 e6 e4 hobs (fun i h4 h5 => hf i h4 h5)
      exact hK v _ _ _ q1 q2 (V.ren_rep q3 _ _ _ hx e7)
    · exact hb.elim
  · exact h.elim

/-- Every frame is let in; r: the round's record, if this is a round of a range over a function. -/
def Fr (r : Option Nat) : Fence := { Fence.wide with round := r }
theorem op_in {o : Oper} (hd : ∀ c, o.op ≠ .defer c) {r : Option Nat} {a : Act} {w : World} {Kc : Act → World → Prop} {Q : Exit → Act → World → Prop} (h : o.wp P a w Kc Q) : o.wpIn (Fr r) 0 P a w Kc Q := by
  refine ⟨fun _ _ => trivial, ?_⟩
  rw [Oper.semAt_eq _ _ _ hd]
  unfold Oper.wp at h
  generalize (execOp a.eval o).run P w = res at *
  have hn : (Fr r).depth.isSome = true → 1 ≤ 0 := fun hh => by simp [Fr, Fence.wide] at hh
  cases res with
  | ok x w' =>
    cases x with
    | enter f args => exact ⟨hn, (callsIn_wide (n := 0)).2 h⟩
    | row row args => exact ⟨hn, fun c cs _ => by obtain ⟨v, w2, h1, h2⟩ := h c cs; exact ⟨v, w2, h1, stepsIn_wide.2 h2⟩⟩
    | round => exact h.elim
    | value v => exact h
    | skip => exact h
    | defer d => exact h
    | _ => exact h.elim
  | halt x w' => cases x <;> first | exact h | exact h.elim
/-- The same, one behind the other. -/
def TriS (P : Program) (o : Oper) (ρ : Env) (H : List Ob) (K : Eff → Prop) : Prop :=
  ∀ (r : Option Nat) (a : Act) (G : Imm) (w : World) (φ : Loc) (Kc : Act → World → Prop) (Q : Exit → Act → World → Prop), Sit G w φ (hp H) → OpRep o ρ a G φ →
    (∀ e v G' w' φ', K e → Sit G' w' φ' (hp (updL H e)) → Goes G w φ (hp H) G' w' φ' (hp (updL H e)) → e.x.rep G' φ' v → Kc (a.put o.dst v) w') → o.wpIn (Fr r) 0 P a w Kc Q
theorem TriS.of (hd : ∀ c, o.op ≠ .defer c) (h : ∃ e, K e ∧ Tri P o ρ H e) : TriS P o ρ H K := by
  obtain ⟨e, hk, ht⟩ := h
  intro r a G w φ Kc Q hs hr hK
  refine op_in hd ?_
  refine ht.go a G w φ (hp H) Kc Q hs hr (fun i _ => rfl) (fun i h1 h2 => List.getElem?_eq_none h1) fun v G' w' φ' h1 h2 h3 => ?_
  rw [upd_hp H e ht.wr] at h1 h2
  exact hK e v G' w' φ' hk h1 h2 h3
/-- What the history's object knows of the places, once more blocks are its own. -/
noncomputable def histLoc (φ : Loc) (id : Nat) (B : Nat → Prop) : Loc := fun i n => if i = id then (match n with
  | 0 => φ id 0
  | b + 1 => match φ id (b + 1) with
    | some z => some z
    | none => @ite _ (B b) (Classical.propDecidable _) (some (none, 0)) none) else φ i n
theorem histLoc_ne {φ : Loc} {id : Nat} {B : Nat → Prop} {i : Nat} (h : i ≠ id) (n : Nat) : histLoc φ id B i n = φ i n := by unfold histLoc; rw [if_neg h]
theorem histLoc_0 {φ : Loc} {id : Nat} {B : Nat → Prop} : histLoc φ id B id 0 = φ id 0 := by unfold histLoc; rw [if_pos rfl]
theorem histLoc_B {φ : Loc} {id : Nat} {B : Nat → Prop} (b : Nat) : (histLoc φ id B id (b + 1)).isSome = true ↔ (φ id (b + 1)).isSome = true ∨ B b := by
  unfold histLoc
  rw [if_pos rfl]
  dsimp only
  cases h : φ id (b + 1) with
  | some z => simp
  | none =>
    by_cases hb : B b
    · simp [hb]
    · simp [hb]
theorem histLoc_le {φ : Loc} {id : Nat} {B : Nat → Prop} : φ.le (histLoc φ id B) := fun i n z h => by
  by_cases hi : i = id
  · subst hi
    cases n with
    | zero => rw [histLoc_0]; exact h
    | succ b => unfold histLoc; rw [if_pos rfl]; dsimp only; rw [h]
  · rw [histLoc_ne hi]; exact h
theorem callY_sem {c : Call} (ho : o.op = .call c) (h : callY P ρ H c K) : TriS P o ρ H K := by
  unfold callY at h
  split at h
  · rename_i f hcal
    split at h
    · rename_i id hf
      split at h
      · rename_i zs xs hzs hH
        split at h
        · rename_i ys hys
          obtain ⟨⟨hok, hgo⟩, h⟩ := h
          have hK1 : K ⟨.d (.bool (Amb.go (xs ++ [ys]))), [], [(id, .hist (xs ++ [ys]))], []⟩ := by
            rcases brP_out h with ⟨e, h⟩ | ⟨e, h⟩ <;> rw [e] <;> exact h
          clear h
          intro r a G w φ Kc Q hs hr hK
          have hfm : f ∈ o.op.operands := by rw [ho]; simp [Op.operands, Call.operands, hcal]
          obtain ⟨b, cc, f1, f2⟩ := hr f _ hfm hf
          obtain ⟨⟨c0, j1⟩, j2⟩ := hs.holds id _ hH
          rw [f1] at j1
          injection j1 with j1; injection j1 with j1 j1'; injection j1 with j1; injection j1 with j1 _
          subst j1
          have hx := oprep_list (o := o) (a := a) (G := G) (φ := φ) (fun x hx => by rw [ho]; simp [Op.operands, Call.operands]; right; simpa using hx) hr hzs
          have hv : ∀ φ', repVs G φ' ys (c.args.toList.map a.eval) := fun φ' => rens_rep (f := fun _ => none) (φ1 := φ) (fun i j hij => by cases hij) _ _ _ hys (plains_rep _ _ hx)
          obtain ⟨g, tmps, assign, body, r1, r2⟩ := Amb.yield hok hgo j2 hs.inv hv
          refine ⟨fun _ _ => trivial, ?_⟩
          rw [Oper.semAt_eq _ _ _ (fun c' hc' => by rw [ho] at hc'; cases hc')]
          have run : (execOp a.eval o).run P w = .ok (.round Amb.l g tmps assign body) w := by
            unfold execOp
            rw [ho]
            simp only [Sem.run_bind, resolve, hcal, f2, Deferred.ofValue, Sem.run_pure, Result.andThen_ok, invoke]
            rw [← r1]
            congr 2
            apply Array.ext'
            simp
          rw [run, Oper.uponIn_round]
          refine ⟨fun hh => by simp [Fr, Fence.wide] at hh, RoundIn.mono (F := Fr r) (n := 0) r2 ?_⟩
          rintro e w' ⟨G', B', rfl, q1, q2, q3, ⟨q4, q5, q6, q7⟩, q8, q9, q10⟩
          have hw : ∀ p ∈ [(id, Ob.hist (xs ++ [ys]))], p.1 < H.length := fun p hp => by simp at hp; subst hp; exact lt_of_get hH
          have hst := hs.step (G' := G') (w' := w') (φ' := histLoc φ id B') (H' := fun i => if i = id then some (.hist (xs ++ [ys])) else hp H i) (fun i => i = id) q3 histLoc_le (fun i hi n => histLoc_ne hi n) q4 q5 q6 q7
            (fun k hk hn => q10 k hk (fun hB => hn id _ rfl hH hB)) (fun i hi => if_neg hi) q2
            (fun i ob hi h1 => by
              subst hi; simp at h1; subst h1
              refine ⟨⟨cc, by rw [histLoc_0]; exact f1⟩, ?_⟩
              have e : (fun k => (histLoc φ i B' i (k + 1)).isSome = true) = B' := by
                funext k
                exact propext ((histLoc_B k).trans ⟨fun h => h.elim (q8 k) id, .inr⟩)
              rw [e]; exact q1)
            (fun i j ob1 ob2 k hi hj hij => absurd (hi.trans hj.symm) hij)
            (fun i ob k hi h1 h2 => by
              subst hi; simp at h1; subst h1
              rcases (histLoc_B k).1 h2 with h3 | h3
              · exact .inl ⟨i, _, rfl, hH, h3⟩
              · rcases q9 k h3 with h4 | h4
                · exact .inl ⟨i, _, rfl, hH, h4⟩
                · exact .inr h4)
            (fun i hi h1 => by subst hi; simp at h1)
          have hupd := upd_hp H ⟨.d (.bool (Amb.go (xs ++ [ys]))), [], [(id, .hist (xs ++ [ys]))], []⟩ hw
          rw [upd_one] at hupd
          rw [hupd] at hst
          exact hK _ _ G' w' _ hK1 hst.1 hst.2 rfl
        · exact h.elim
      · exact h.elim
    · exact h.elim
  · exact h.elim
theorem callR_sem {c : Call} (ho : o.op = .call c) (h : callR P ρ H c K) : TriS P o ρ H K := by
  unfold callR at h
  split at h
  · rename_i g zs hargs
    obtain ⟨ids, ys, hh, h1, h2, h3, hc⟩ := lendE_out h
    intro r a G w φ Kc Q hs hr hK
    refine op_in (fun c' hc' => by rw [ho] at hc'; cases hc') ?_
    obtain ⟨g1, g2⟩ := obsAt_get h2
    have hlt : ∀ i ∈ ids, i < H.length := fun i hi => by
      obtain ⟨k, hk⟩ := List.getElem?_of_mem hi
      obtain ⟨ob, _, h4, _⟩ := g2 k i hk
      exact lt_of_get h4
    obtain ⟨vs, v1, v2⟩ := fnArgs_run (P := P) ho hargs hr hc.1 w
    unfold Oper.wp
    rw [v2, Oper.upon_enter]
    have hls := lent_sit (H := H) hs h3 (fun i _ => rfl) h2
    refine (hc.2 G w (lentLoc φ ids) vs hls (rens_rep (lent_moves φ ids) _ _ _ h1 v1)).mono fun e w' ⟨v, r', h'', G', φ', e1, hb, e4, e5, e6, e7⟩ => ?_
    subst e1
    replace hb : backE ids H.length r' h'' K := hb
    unfold backE at hb
    split at hb
    · rename_i x obs hx hobs
      obtain ⟨hlen, hb⟩ := condP_out hb
      obtain ⟨q1, q2, q3⟩ := call_back (x := x) hs h3 hlt (fun i _ => rfl) h2 e5 e6 e4 hobs (fun i h4 h5 => List.getElem?_eq_none h4)
      have hw : ∀ p ∈ ids.zip obs, p.1 < H.length := fun p hp => hlt _ (List.of_mem_zip hp).1
      rw [upd_hp H ⟨x, [], ids.zip obs, obs.drop ids.length⟩ hw] at q1 q2
      exact hK _ v _ _ _ hb q1 q2 (V.ren_rep q3 _ _ _ hx e7)
    · exact hb.elim
  · exact callY_sem ho h
theorem toList1 {α : Type} {A : Array α} {l : List α} (h : A.toList = l) : A = l.toArray := by rw [← h]
theorem popB_sem {c : Call} {b : Builtin} (htt : TTok P tt) (ho : o.op = .call c) (hb : c.callee = .builtin b) (h : popB tt ρ H b c.args.toList c.argTypes.toList K) : ∃ e, K e ∧ Tri P o ρ H e := by
  obtain ⟨cal, args, tys⟩ := c
  simp only at hb
  subst hb
  unfold popB at h
  split at h
  · rename_i x t h1 h2
    obtain ⟨X, hX, h⟩ := ev1_out h
    simp only at h1 h2
    rw [toList1 h1, toList1 h2] at ho
    exact pLen_sem htt ho hX h
  · rename_i x y t u h1 h2
    obtain ⟨X, Y, hX, hY, h⟩ := ev2_out h
    simp only at h1 h2
    rw [toList1 h1, toList1 h2] at ho
    rcases appB_out h with h | h
    · exact pApp_sem htt ho hX hY h
    · exact pAppArr_sem htt ho hX hY h
  · obtain ⟨X, hX, h⟩ := evsP_out h
    exact pMM_sem (mx := true) ho hX h
  · obtain ⟨X, hX, h⟩ := evsP_out h
    exact pMM_sem (mx := false) ho hX h
  · exact h.elim
theorem pPick_sem {c x y : Operand} {C : V} (ho : o.op = .pick c x y) (hc : ev ρ c = some C) (h : pPick C (ev ρ x) (ev ρ y) K) : ∃ e, K e ∧ Tri P o ρ H e := by
  unfold pPick at h
  split at h
  · rename_i b
    have hcm : c ∈ o.op.operands := by rw [ho]; simp [Op.operands]
    have hxm : x ∈ o.op.operands := by rw [ho]; simp [Op.operands]
    have hym : y ∈ o.op.operands := by rw [ho]; simp [Op.operands]
    rcases brP_out h with ⟨rfl, h⟩ | ⟨rfl, h⟩
    · cases hX : ev ρ x with
      | none => rw [hX] at h; exact h.elim
      | some X =>
        rw [hX] at h
        refine kv_sem h fun a G w φ hi hr => ⟨a.eval x, ?_, hr x X hxm hX⟩
        have ec : a.eval c = .bool true := hr c _ hcm hc
        unfold execOp
        rw [ho]
        simp [ec, asBool]
    · cases hY : ev ρ y with
      | none => rw [hY] at h; exact h.elim
      | some Y =>
        rw [hY] at h
        refine kv_sem h fun a G w φ hi hr => ⟨a.eval y, ?_, hr y Y hym hY⟩
        have ec : a.eval c = .bool false := hr c _ hcm hc
        unfold execOp
        rw [ho]
        simp [ec, asBool]
  · exact h.elim
theorem popE_sem (htt : TTok P tt) (h : popE P tt ρ H o.op K) : ∃ e, K e ∧ Tri P o ρ H e := by
  generalize hop : o.op = q at h
  unfold popE at h
  split at h
  case h_1 => obtain ⟨X, hX, h⟩ := ev1_out h; exact pMove_sem (.inl hop) hX h
  case h_2 => obtain ⟨X, hX, h⟩ := ev1_out h; exact pMove_sem (.inr hop) hX h
  case h_3 => exact pAlloc_sem htt hop h
  case h_4 => obtain ⟨X, hX, h⟩ := ev1_out h; exact pBox_sem hop hX h
  case h_5 => obtain ⟨X, hX, h⟩ := evPartsP_out h; exact pBuild_sem htt hop hX h
  case h_6 => obtain ⟨X, hX, h⟩ := evPartsP_out h; exact pBS_sem htt hop hX h
  case h_7 => obtain ⟨X, hX, h⟩ := ev1_out h; exact pLoad_sem htt hop hX h
  case h_8 => obtain ⟨X, Y, hX, hY, h⟩ := ev2_out h; exact pStore_sem htt hop hX hY h
  case h_9 => obtain ⟨X, hX, h⟩ := ev1_out h; exact pNil_sem hop hX h
  case h_10 => obtain ⟨X, Y, hX, hY, h⟩ := ev2_out h; exact pBin_sem htt hop hX hY h
  case h_11 => obtain ⟨X, hX, h⟩ := ev1_out h; exact pUn_sem hop hX h
  case h_12 => obtain ⟨X, hX, h⟩ := ev1_out h; exact pPick_sem hop hX h
  case h_13 => obtain ⟨X, hX, h⟩ := ev1_out h; exact pConvB_sem htt hop hX h
  case h_14 =>
    obtain ⟨X, hX, h⟩ := evsP_out h
    obtain ⟨Y, hY, h⟩ := evsP_out h
    exact pFn_sem hop hX hY h
  case h_15 => obtain ⟨X, Y, hX, hY, h⟩ := ev2_out h; exact pMake_sem htt hop hX hY h
  case h_16 =>
    obtain ⟨X, hX, h⟩ := ev1_out h
    split at h
    · rename_i h1 h2; exact pCut_sem htt hop hX h1 h2 h
    · exact h.elim
  case h_17 => obtain ⟨X, hX, h⟩ := ev1_out h; exact pFA_sem htt hop hX h
  case h_18 => obtain ⟨X, hX, h⟩ := ev1_out h; exact pField_sem htt hop hX h
  case h_19 => obtain ⟨X, Y, hX, hY, h⟩ := ev2_out h; exact pIA_sem htt hop hX hY h
  case h_20 => obtain ⟨X, Y, hX, hY, h⟩ := ev2_out h; exact pIx_sem htt hop hX hY h
  case h_21 => obtain ⟨X, hX, h⟩ := ev1_out h; exact pExt_sem hop hX h
  case h_22 =>
    split at h
    · rename_i b hb; exact popB_sem htt hop hb h
    · exact callE_sem hop h
  case h_23 =>
    split at h
    · exact pMkMap_sem htt hop trivial h
    · obtain ⟨X, hX, h⟩ := ev1_out h; exact pMkMap_sem htt hop hX h
  case h_24 =>
    obtain ⟨X, Y, hX, hY, h⟩ := ev2_out h
    rcases h with h | h
    · exact pLook_sem htt hop hX hY h
    · exact pLookI_sem htt hop hX hY h
  case h_25 => obtain ⟨X, Y, hX, hY, h⟩ := ev2_out h; obtain ⟨Z, hZ, h⟩ := ev1_out h; exact pMapUp_sem htt (.inl hop) hX hY hZ h
  case h_26 => obtain ⟨X, Y, hX, hY, h⟩ := ev2_out h; obtain ⟨Z, hZ, h⟩ := ev1_out h; exact pMapUp_sem htt (.inr hop) hX hY hZ h
  case h_27 => exact h.elim
end
end Go.Proofs.YtmflfcbebeikcaaGreatDoor.Q

namespace Go.Proofs.YtmflfcbebeikcaaGreatDoor.Q
variable [Amb]
section
variable {P : Program} {tt : TT} {K : Env → List Ob → Prop}

/-! ### guards -/
def gdP (ops : List Oper) (o : Oper) (ρ : Env) (run skip : Prop) : Prop :=
  match o.guard with
  | none => run
  | some (g, want) => match ops[g]? with
    | some p => match p.dst with
      | some t => match lk ρ t with
        | some (.d (.bool b)) => match want with
          | true => brP b run skip
          | false => brP b skip run
        | some (.tup []) => skip
        | _ => False
      | none => False
    | none => False
theorem gdP_out {ops : List Oper} {o : Oper} {ρ : Env} {run skip : Prop} (h : gdP ops o ρ run skip) : ∃ r : Bool, (if r then run else skip) ∧ ∀ (G : Imm) (φ : Loc) (a : Act),
    (∀ t x, t ∈ reads ops o → lk ρ t = some x → ∃ v, a.tmps[t]? = some v ∧ x.rep G φ v) → Region.wanted o (yielded ops.toArray a.tmps) = r := by
  unfold gdP at h
  split at h
  · rename_i hg; exact ⟨true, h, fun G φ a _ => by simp [Region.wanted, hg]⟩
  · rename_i g want hg
    split at h
    · rename_i p hp
      split at h
      · rename_i t ht
        have hmem : t ∈ reads ops o := by
          unfold reads
          rw [hg]
          simp [hp, ht]
        have key : ∀ (G : Imm) (φ : Loc) (a : Act), Region.wanted o (yielded ops.toArray a.tmps) = ((match a.tmps[t]? with | some (.bool b) => some b | _ => none) == some want) := by
          intro G φ a
          simp only [Region.wanted, hg, yielded, List.getElem?_toArray, hp, Option.bind_some, ht]
          cases a.tmps[t]? with
          | none => rfl
          | some v => cases v <;> rfl
        split at h
        · rename_i b hb
          have fin : ∀ (r : Bool), (if r then run else skip) → r = (b == want) → ∃ r : Bool, (if r then run else skip) ∧ ∀ (G : Imm) (φ : Loc) (a : Act), (∀ t x, t ∈ reads ops o → lk ρ t = some x → ∃ v, a.tmps[t]? = some v ∧ x.rep G φ v) → Region.wanted o (yielded ops.toArray a.tmps) = r := by
            intro r hr hrb
            refine ⟨r, hr, fun G φ a hh => ?_⟩
            obtain ⟨v, h1, h2⟩ := hh t _ hmem hb
            have h2 : v = .bool b := h2
            rw [key G φ a, h1, h2, hrb]
            rfl
          cases want with
          | true =>
            rcases brP_out h with ⟨hb, h⟩ | ⟨hb, h⟩
            · exact fin true h (by rw [hb]; rfl)
            · exact fin false h (by rw [hb]; rfl)
          | false =>
            rcases brP_out h with ⟨hb, h⟩ | ⟨hb, h⟩
            · exact fin false h (by rw [hb]; rfl)
            · exact fin true h (by rw [hb]; rfl)
        · rename_i hb
          refine ⟨false, h, fun G φ a hh => ?_⟩
          obtain ⟨v, h1, us, h2, h3⟩ := hh t _ hmem hb
          rw [key G φ a, h1, h2]
          rfl
        · exact h.elim
      · exact h.elim
    · exact h.elim
def dstB (o : Oper) (n : Nat) : Bool := match o.dst with
  | some t => Nat.blt t n
  | none => true

/-! ### values, told at once (so that what follows does not work them out again and again) -/
def fN (n : Nat) (K : Nat → Prop) : Prop := @Nat.rec (fun _ => Nat → Prop) (fun acc => K acc) (fun _ ih acc => ih (acc + 1)) n 0
theorem fN_go (K : Nat → Prop) : ∀ (n acc : Nat), @Nat.rec (fun _ => Nat → Prop) (fun acc => K acc) (fun _ ih acc => ih (acc + 1)) n acc = K (acc + n)
  | 0, acc => rfl
  | n + 1, acc => (fN_go K n (acc + 1)).trans (by rw [Nat.add_right_comm, Nat.add_assoc])
theorem fN_eq (n : Nat) (K : Nat → Prop) : fN n K = K n := (fN_go K n 0).trans (by rw [Nat.zero_add])
def fNs (l : List Nat) : (List Nat → Prop) → Prop := @List.rec Nat (fun _ => (List Nat → Prop) → Prop) (fun K => K []) (fun a _ ih K => fN a fun a' => ih fun t => K (a' :: t)) l
theorem fNs_eq : ∀ (l : List Nat) (K : List Nat → Prop), fNs l K = K l
  | [], K => rfl
  | a :: t, K => by
    show fN a (fun a' => fNs t fun t' => K (a' :: t')) = _
    rw [fN_eq, fNs_eq t]
def fD (x : D) (K : D → Prop) : Prop := match x with
  | .int k n => K (.int k n)
  | .bool b => K (.bool b)
  | .str s => K (.str s)
  | .sl rows => K (.sl rows)
  | .raw v => K (.raw v)
theorem fD_eq (x : D) (K : D → Prop) : fD x K = K x := by cases x <;> rfl
/-- One cell. -/
def fC (x : V) (K : V → Prop) : Prop := match x with
  | .d y => fD y fun y => K (.d y)
  | .ptr id off => fN id fun id => fN off fun off => K (.ptr id off)
  | .gsl rows t => fN t fun t => K (.gsl rows t)
  | .arr id off len => fN id fun id => K (.arr id off len)
  | .eptr id i off => fN id fun id => K (.eptr id i off)
  | .map id => fN id fun id => K (.map id)
  | .agg cs => K (.agg cs)
  | .tup vs => K (.tup vs)
  | .iptr row => K (.iptr row)
  | .fsl rows => K (.fsl rows)
  | .vsl rows => K (.vsl rows)
  | .fn f a b => K (.fn f a b)
  | .yld id => fN id fun id => K (.yld id)
  | .undef => K .undef
theorem fC_eq (x : V) (K : V → Prop) : fC x K = K x := by cases x <;> simp only [fC, fD_eq, fN_eq]
def fCs (l : List V) : (List V → Prop) → Prop := @List.rec V (fun _ => (List V → Prop) → Prop) (fun K => K []) (fun a _ ih K => fC a fun a' => ih fun t => K (a' :: t)) l
theorem fCs_eq : ∀ (l : List V) (K : List V → Prop), fCs l K = K l
  | [], K => rfl
  | a :: t, K => by
    show fC a (fun a' => fCs t fun t' => K (a' :: t')) = _
    rw [fC_eq, fCs_eq t]
def fV (x : V) (K : V → Prop) : Prop := match x with
  | .agg cs => fCs cs fun cs => K (.agg cs)
  | .tup vs => fCs vs fun vs => K (.tup vs)
  | x => fC x K
theorem fV_eq (x : V) (K : V → Prop) : fV x K = K x := by cases x <;> simp only [fV, fC_eq, fCs_eq]
def fOb (x : Ob) (K : Ob → Prop) : Prop := match x with
  | .box cs => fCs cs fun cs => K (.box cs)
  | .tip e n => K (.tip e n)
  | .parr e rows => K (.parr e rows)
  | .hist xs => K (.hist xs)
  | .mp ks vs => fCs ks fun ks => fCs vs fun vs => K (.mp ks vs)
  | .bld T e u s rest => fCs rest fun rest => K (.bld T e u s rest)
  | .dead => K .dead
theorem fOb_eq (x : Ob) (K : Ob → Prop) : fOb x K = K x := by cases x <;> simp only [fOb, fCs_eq]
def fObs (l : List Ob) : (List Ob → Prop) → Prop := @List.rec Ob (fun _ => (List Ob → Prop) → Prop) (fun K => K []) (fun a _ ih K => fOb a fun a' => ih fun t => K (a' :: t)) l
theorem fObs_eq : ∀ (l : List Ob) (K : List Ob → Prop), fObs l K = K l
  | [], K => rfl
  | a :: t, K => by
    show fOb a (fun a' => fObs t fun t' => K (a' :: t')) = _
    rw [fOb_eq, fObs_eq t]
def putK (ρ : Env) (d : Option Nat) (x : V) (K : Env → Prop) : Prop := match d with
  | some t => fV x fun x => K ((t, x) :: ρ)
  | none => K ρ
theorem putK_eq (ρ : Env) (d : Option Nat) (x : V) (K : Env → Prop) : putK ρ d x K = K (put ρ d x) := by cases d <;> simp only [putK, put, fV_eq]
def nextE (ρ : Env) (H : List Ob) (d : Option Nat) (e : Eff) (K : Env → List Ob → Prop) : Prop := putK ρ d e.x fun ρ' => match e.wr, e.nw with
  | [], [] => K ρ' H
  | wr, nw => fObs (updL H ⟨e.x, e.rd, wr, nw⟩) fun H' => K ρ' H'
theorem nextE_eq (ρ : Env) (H : List Ob) (d : Option Nat) (e : Eff) (K : Env → List Ob → Prop) : nextE ρ H d e K = K (put ρ d e.x) (updL H e) := by
  unfold nextE
  rw [putK_eq]
  obtain ⟨x, rd, wr, nw⟩ := e
  cases wr <;> cases nw <;> simp only [fObs_eq] <;> rfl

/-! ### one behind the other -/
def isCall : Op → Option Call
  | .call c => match c.callee with
    | .builtin _ => none
    | _ => some c
  | _ => none
def popR (P : Program) (tt : TT) (ρ : Env) (H : List Ob) (o : Op) (K : Eff → Prop) : Prop :=
  match isCall o with
  | some c => callR P ρ H c K
  | none => popE P tt ρ H o K
theorem popR_sem {o : Oper} {ρ : Env} {H : List Ob} {K : Eff → Prop} (htt : TTok P tt) (h : popR P tt ρ H o.op K) : TriS P o ρ H K := by
  unfold popR at h
  split at h
  · rename_i c hc
    have : o.op = .call c := by
      unfold isCall at hc
      split at hc
      · rename_i c' heq
        split at hc
        · cases hc
        · injection hc with hc; rw [heq, hc]
      · cases hc
    exact callR_sem this h
  · exact TriS.of (fun c' hc' => by rw [hc'] at h; exact h.elim) (popE_sem htt h)
/-- (By the list's own recursor: what is left of it then looks alike to Lean's elaborator and to its kernel.) -/
def pops (P : Program) (tt : TT) (n : Nat) (ops : List Oper) (l : List Oper) : Env → List Ob → (Env → List Ob → Prop) → Prop :=
  @List.rec Oper (fun _ => Env → List Ob → (Env → List Ob → Prop) → Prop) (fun ρ H K => K ρ H)
    (fun o _ ih ρ H K => condP (dstB o n) (gdP ops o ρ (popR P tt ρ H o.op fun e => nextE ρ H o.dst e fun ρ' H' => ih ρ' H' K) (putK ρ o.dst (.tup []) fun ρ' => ih ρ' H K))) l
theorem pops_cons (P : Program) (tt : TT) (n : Nat) (ops : List Oper) (o : Oper) (r : List Oper) (ρ : Env) (H : List Ob) (K : Env → List Ob → Prop) : pops P tt n ops (o :: r) ρ H K =
    condP (dstB o n) (gdP ops o ρ (popR P tt ρ H o.op fun e => pops P tt n ops r (put ρ o.dst e.x) (updL H e) K) (pops P tt n ops r (put ρ o.dst (.tup [])) H K)) := by
  show condP (dstB o n) (gdP ops o ρ (popR P tt ρ H o.op fun e => nextE ρ H o.dst e fun ρ' H' => pops P tt n ops r ρ' H' K) (putK ρ o.dst (.tup []) fun ρ' => pops P tt n ops r ρ' H K)) = _
  simp only [nextE_eq, putK_eq]
/-- The frame and the world as a state says. -/
structure Rep (n : Nat) (G : Imm) (w : World) (φ : Loc) (ρ : Env) (H : List Ob) (a : Act) : Prop where
  sit : Sit G w φ (hp H)
  env : EnvOk G φ ρ a
  size : a.tmps.size = n
theorem put_defers (a : Act) (d : Option Tmp) (v : Value) : (a.put d v).defers = a.defers := by cases d <;> rfl
theorem put_size (a : Act) (d : Option Tmp) (v : Value) : (a.put d v).tmps.size = a.tmps.size := by cases d <;> simp [Act.put]
theorem env_put {G : Imm} {φ : Loc} {ρ : Env} {a : Act} {o : Oper} {n : Nat} {x : V} {v : Value} (h : EnvOk G φ ρ a) (hn : a.tmps.size = n) (hd : dstB o n = true) (hx : x.rep G φ v) : EnvOk G φ (put ρ o.dst x) (a.put o.dst v) := by
  unfold dstB at hd
  cases hdst : o.dst with
  | none => exact h
  | some d =>
    rw [hdst] at hd
    have hdn : d < n := Nat.le_of_ble_eq_true hd
    intro t y hy
    simp only [put, lk_put] at hy
    split at hy
    · rename_i hdt
      injection hy with hy; subst hy; subst hdt
      exact ⟨v, by simp [Act.put, hn, hdn], hx⟩
    · rename_i hdt
      obtain ⟨u, h1, h2⟩ := h t y hy
      exact ⟨u, by simp [Act.put, Array.getElem?_setIfInBounds_ne hdt, h1], h2⟩
theorem opRep_of {G : Imm} {φ : Loc} {ρ : Env} {a : Act} (h : EnvOk G φ ρ a) (o : Oper) : OpRep o ρ a G φ := fun x X _ hX => ev_rep h hX
theorem pops_sem (htt : TTok P tt) {n : Nat} (r : Option Nat) {ops : List Oper} {Q : Exit → Act → World → Prop} : ∀ (l : List Oper) (ρ : Env) (H : List Ob), pops P tt n ops l ρ H K → ∀ (G0 : Imm) (w0 : World) (φ0 : Loc) (H0 : Hp) (G : Imm) (w : World) (φ : Loc) (a : Act), Rep n G w φ ρ H a → Goes G0 w0 φ0 H0 G w φ (hp H) →
    (∀ ρ' H' G' w' φ' a', K ρ' H' → Rep n G' w' φ' ρ' H' a' → Goes G0 w0 φ0 H0 G' w' φ' (hp H') → a'.defers = a.defers → Q .normal a' w') → wpListIn (Fr r) 0 P ops.toArray Q l a w
  | [], ρ, H, h, G0, w0, φ0, H0, G, w, φ, a, hrep, hgo, hQ => hQ ρ H G w φ a h hrep hgo rfl
  | o :: rest, ρ, H, h, G0, w0, φ0, H0, G, w, φ, a, hrep, hgo, hQ => by
    rw [pops_cons] at h
    obtain ⟨hd, h⟩ := condP_out h
    obtain ⟨b, hb, hw⟩ := gdP_out h
    have hw := hw G φ a fun t x _ hx => hrep.env t x hx
    unfold wpListIn
    cases b with
    | true =>
      rw [if_pos hw]
      refine popR_sem htt hb r a G w φ _ _ hrep.sit (opRep_of hrep.env o) fun e v G' w' φ' hK hs' hg' hx => ?_
      refine pops_sem htt r rest _ _ hK G0 w0 φ0 H0 G' w' φ' (a.put o.dst v) ⟨hs', env_put (hrep.env.mono hg'.le hg'.ple) hrep.size hd hx, by rw [put_size]; exact hrep.size⟩ (hgo.trans hg') (fun ρ1 H1 G1 w1 φ1 a1 q1 q2 q3 q4 => hQ ρ1 H1 G1 w1 φ1 a1 q1 q2 q3 (q4.trans (put_defers _ _ _)))
    | false =>
      rw [if_neg (by rw [hw]; simp)]
      exact ⟨fun _ _ => trivial, pops_sem htt r rest _ _ hb G0 w0 φ0 H0 G w φ (a.put o.dst undef) ⟨hrep.sit, env_put hrep.env hrep.size hd ⟨[], rfl, rfl⟩, by rw [put_size]; exact hrep.size⟩ hgo (fun ρ1 H1 G1 w1 φ1 a1 q1 q2 q3 q4 => hQ ρ1 H1 G1 w1 φ1 a1 q1 q2 q3 (q4.trans (put_defers _ _ _)))⟩

/-! ### in whatever order -/
def newIds (base : Nat) (e : Eff) : List Nat := List.range' base e.nw.length
def wrote (base : Nat) (e : Eff) : List Nat := e.wr.map (·.1) ++ newIds base e
def touch (base : Nat) (e : Eff) : List Nat := e.rd ++ wrote base e
structure Fp where
  i : Nat
  t : List Nat
  w : List Nat
def apartB (f g : Fp) : Bool := disjB f.w g.t && disjB g.w f.t
def fpB (ops : List Oper) (fps : List Fp) (g : Fp) : Bool := match g.t with
  | [] => true
  | _ => fps.all fun f => apartB f g || waits ops g.i f.i
def addFp (g : Fp) (fps : List Fp) : List Fp := match g.t with
  | [] => fps
  | _ => g :: fps
theorem touch_nil {base : Nat} {e : Eff} (h : touch base e = []) : wrote base e = [] := (List.append_eq_nil_iff.1 h).2
def pd (P : Program) (tt : TT) (n : Nat) (ops : List Oper) (l : List Oper) : Nat → Env → List Ob → List Fp → (Env → List Ob → Prop) → Prop :=
  @List.rec Oper (fun _ => Nat → Env → List Ob → List Fp → (Env → List Ob → Prop) → Prop) (fun _ ρ H _ K => K ρ H)
    (fun o _ ih j ρ H fps K => condP (dstB o n) (gdP ops o ρ
      (popE P tt ρ H o.op fun e => fNs (touch H.length e) fun t => fNs (wrote H.length e) fun w => condP (fpB ops fps ⟨j, t, w⟩) (nextE ρ H o.dst e fun ρ' H' => ih (j + 1) ρ' H' (addFp ⟨j, t, w⟩ fps) K))
      (putK ρ o.dst (.tup []) fun ρ' => ih (j + 1) ρ' H fps K))) l
theorem pd_cons (P : Program) (tt : TT) (n : Nat) (ops : List Oper) (o : Oper) (r : List Oper) (j : Nat) (ρ : Env) (H : List Ob) (fps : List Fp) (K : Env → List Ob → Prop) : pd P tt n ops (o :: r) j ρ H fps K =
    condP (dstB o n) (gdP ops o ρ
      (popE P tt ρ H o.op fun e => condP (fpB ops fps ⟨j, touch H.length e, wrote H.length e⟩) (pd P tt n ops r (j + 1) (put ρ o.dst e.x) (updL H e) (addFp ⟨j, touch H.length e, wrote H.length e⟩ fps) K))
      (pd P tt n ops r (j + 1) (put ρ o.dst (.tup [])) H fps K)) := by
  show condP (dstB o n) (gdP ops o ρ
      (popE P tt ρ H o.op fun e => fNs (touch H.length e) fun t => fNs (wrote H.length e) fun w => condP (fpB ops fps ⟨j, t, w⟩) (nextE ρ H o.dst e fun ρ' H' => pd P tt n ops r (j + 1) ρ' H' (addFp ⟨j, t, w⟩ fps) K))
      (putK ρ o.dst (.tup []) fun ρ' => pd P tt n ops r (j + 1) ρ' H fps K)) = _
  simp only [nextE_eq, putK_eq, fNs_eq]
structure Stp where
  ρ : Env
  H : List Ob
  e : Option Eff
def Stp.x (s : Stp) : V := match s.e with
  | some e => e.x
  | none => .tup []
def Stp.fp (s : Stp) (j : Nat) : Fp := match s.e with
  | some e => ⟨j, touch s.H.length e, wrote s.H.length e⟩
  | none => ⟨j, [], []⟩
structure StpOk (P : Program) (n : Nat) (ops : List Oper) (o : Oper) (s s' : Stp) : Prop where
  dst : dstB o n = true
  gd : ∀ (G : Imm) (φ : Loc) (a : Act), (∀ t x, t ∈ reads ops o → lk s.ρ t = some x → ∃ v, a.tmps[t]? = some v ∧ x.rep G φ v) → Region.wanted o (yielded ops.toArray a.tmps) = s.e.isSome
  tri : ∀ e, s.e = some e → Tri P o s.ρ s.H e
  ρ : s'.ρ = put s.ρ o.dst s.x
  H : s'.H = match s.e with | some e => updL s.H e | none => s.H
theorem pd_plan (htt : TTok P tt) {n : Nat} {ops : List Oper} : ∀ (l : List Oper) (j : Nat) (ρ : Env) (H : List Ob) (fps : List Fp), pd P tt n ops l j ρ H fps K →
    ∃ S : Nat → Stp, (S j).ρ = ρ ∧ (S j).H = H ∧ (∀ m o, l[m]? = some o → StpOk P n ops o (S (j + m)) (S (j + m + 1))) ∧
      (∀ m, m < l.length → ∀ f ∈ fps, apartB f ((S (j + m)).fp (j + m)) = true ∨ waits ops (j + m) f.i = true) ∧
      (∀ m m', m < m' → m' < l.length → apartB ((S (j + m)).fp (j + m)) ((S (j + m')).fp (j + m')) = true ∨ waits ops (j + m') (j + m) = true) ∧
      K (S (j + l.length)).ρ (S (j + l.length)).H
  | [], j, ρ, H, fps, h => ⟨fun _ => ⟨ρ, H, none⟩, rfl, rfl, by simp, by simp, by simp, h⟩
  | o :: r, j, ρ, H, fps, h => by
    rw [pd_cons] at h
    obtain ⟨hd, h⟩ := condP_out h
    obtain ⟨b, hb, hw⟩ := gdP_out h
    have glue : ∀ (e : Option Eff) (fps' : List Fp) (S : Nat → Stp), (∀ f ∈ fps, f ∈ fps') → e.isSome = b → (∀ e', e = some e' → Tri P o ρ H e') → (S (j + 1)).ρ = put ρ o.dst (Stp.x ⟨ρ, H, e⟩) → (S (j + 1)).H = (match e with | some e => updL H e | none => H) →
        (∀ f ∈ fps, apartB f (Stp.fp ⟨ρ, H, e⟩ j) = true ∨ waits ops j f.i = true) → (apartB (Stp.fp ⟨ρ, H, e⟩ j) ⟨0, [], []⟩ = true) →
        (∀ (g : Fp), apartB (Stp.fp ⟨ρ, H, e⟩ j) g = true ∨ Stp.fp ⟨ρ, H, e⟩ j ∈ fps') →
        (∀ m o, r[m]? = some o → StpOk P n ops o (S (j + 1 + m)) (S (j + 1 + m + 1))) →
        (∀ m, m < r.length → ∀ f ∈ fps', apartB f ((S (j + 1 + m)).fp (j + 1 + m)) = true ∨ waits ops (j + 1 + m) f.i = true) →
        (∀ m m', m < m' → m' < r.length → apartB ((S (j + 1 + m)).fp (j + 1 + m)) ((S (j + 1 + m')).fp (j + 1 + m')) = true ∨ waits ops (j + 1 + m') (j + 1 + m) = true) →
        K (S (j + 1 + r.length)).ρ (S (j + 1 + r.length)).H → ∃ S : Nat → Stp, (S j).ρ = ρ ∧ (S j).H = H ∧ (∀ m o', (o :: r)[m]? = some o' → StpOk P n ops o' (S (j + m)) (S (j + m + 1))) ∧
      (∀ m, m < (o :: r).length → ∀ f ∈ fps, apartB f ((S (j + m)).fp (j + m)) = true ∨ waits ops (j + m) f.i = true) ∧
      (∀ m m', m < m' → m' < (o :: r).length → apartB ((S (j + m)).fp (j + m)) ((S (j + m')).fp (j + m')) = true ∨ waits ops (j + m') (j + m) = true) ∧
      K (S (j + (o :: r).length)).ρ (S (j + (o :: r).length)).H := by
      intro e fps' S hsub he htri h1 h2 hf0 _ hin h3 h4 h5 h6
      have hS : ∀ k, k ≠ j → (fun k => if k = j then (⟨ρ, H, e⟩ : Stp) else S k) k = S k := fun k hk => if_neg hk
      have hSj : (fun k => if k = j then (⟨ρ, H, e⟩ : Stp) else S k) j = ⟨ρ, H, e⟩ := if_pos rfl
      refine ⟨fun k => if k = j then ⟨ρ, H, e⟩ else S k, by rw [hSj], by rw [hSj], ?_, ?_, ?_, ?_⟩
      · intro m o' hm
        cases m with
        | zero =>
          simp at hm; subst hm
          rw [show (fun k => if k = j then (⟨ρ, H, e⟩ : Stp) else S k) (j + 0) = ⟨ρ, H, e⟩ from hSj, show (fun k => if k = j then (⟨ρ, H, e⟩ : Stp) else S k) (j + 0 + 1) = S (j + 1) from hS _ (by omega)]
          exact ⟨hd, fun G φ a hh => by rw [hw G φ a hh, he], htri, h1, h2⟩
        | succ m =>
          rw [show (fun k => if k = j then (⟨ρ, H, e⟩ : Stp) else S k) (j + (m + 1)) = S (j + 1 + m) by rw [hS _ (by omega)]; congr 1; omega, show (fun k => if k = j then (⟨ρ, H, e⟩ : Stp) else S k) (j + (m + 1) + 1) = S (j + 1 + m + 1) by rw [hS _ (by omega)]; congr 1; omega]
          exact h3 m o' (by simpa using hm)
      · intro m hm f hf
        cases m with
        | zero => rw [show (fun k => if k = j then (⟨ρ, H, e⟩ : Stp) else S k) (j + 0) = ⟨ρ, H, e⟩ from hSj]; exact hf0 f hf
        | succ m =>
          rw [show (fun k => if k = j then (⟨ρ, H, e⟩ : Stp) else S k) (j + (m + 1)) = S (j + 1 + m) by rw [hS _ (by omega)]; congr 1; omega, show j + (m + 1) = j + 1 + m by omega]
          exact h4 m (by simpa using hm) f (hsub f hf)
      · intro m m' hmm hm'
        obtain ⟨k, rfl⟩ : ∃ k, m' = k + 1 := ⟨m' - 1, by omega⟩
        rw [show (fun k => if k = j then (⟨ρ, H, e⟩ : Stp) else S k) (j + (k + 1)) = S (j + 1 + k) by rw [hS _ (by omega)]; congr 1; omega, show j + (k + 1) = j + 1 + k by omega]
        cases m with
        | zero =>
          rw [show (fun k => if k = j then (⟨ρ, H, e⟩ : Stp) else S k) (j + 0) = ⟨ρ, H, e⟩ from hSj]
          rcases hin ((S (j + 1 + k)).fp (j + 1 + k)) with h7 | h7
          · exact .inl h7
          · rcases h4 k (by simpa using hm') _ h7 with h8 | h8
            · exact .inl h8
            · right
              have : (Stp.fp ⟨ρ, H, e⟩ j).i = j := by unfold Stp.fp; cases e <;> rfl
              rw [this] at h8
              exact h8
        | succ m =>
          rw [show (fun k => if k = j then (⟨ρ, H, e⟩ : Stp) else S k) (j + (m + 1)) = S (j + 1 + m) by rw [hS _ (by omega)]; congr 1; omega, show j + (m + 1) = j + 1 + m by omega]
          exact h5 m k (by omega) (by simpa using hm')
      · rw [List.length_cons, show (fun k => if k = j then (⟨ρ, H, e⟩ : Stp) else S k) (j + (r.length + 1)) = S (j + 1 + r.length) by rw [hS _ (by omega)]; congr 1; omega]
        exact h6
    cases b with
    | true =>
      obtain ⟨e, hk, ht⟩ := popE_sem htt hb
      obtain ⟨hf, hk⟩ := condP_out hk
      obtain ⟨S, s1, s2, s3, s4, s5, s6⟩ := pd_plan htt r (j + 1) _ _ _ hk
      have nilCase : touch H.length e = [] → ∀ g : Fp, apartB ⟨j, touch H.length e, wrote H.length e⟩ g = true ∧ apartB g ⟨j, touch H.length e, wrote H.length e⟩ = true := by
        intro h0 g
        rw [h0, touch_nil h0]
        simp [apartB, disjB, memB]
      refine glue (some e) (addFp ⟨j, touch H.length e, wrote H.length e⟩ fps) S (fun f hf => ?_) rfl (fun e' he => by injection he with he; subst he; exact ht) s1 s2 (fun f hf' => ?_) (by simp [apartB, disjB, Stp.fp, memB]) (fun g => ?_) s3 s4 s5 s6
      · unfold addFp
        split
        · exact hf
        · exact List.mem_cons_of_mem _ hf
      · unfold fpB at hf
        split at hf
        · rename_i h0; exact .inl (nilCase h0 f).2
        · have := List.all_eq_true.1 hf f hf'
          simp only [Bool.or_eq_true] at this
          exact this
      · unfold addFp
        split
        · rename_i h0; exact .inl (nilCase h0 g).1
        · exact .inr List.mem_cons_self
    | false =>
      obtain ⟨S, s1, s2, s3, s4, s5, s6⟩ := pd_plan htt r (j + 1) _ _ _ hb
      exact glue none fps S (fun f hf => hf) rfl (fun e' he => by cases he) s1 s2 (fun f hf' => .inl (by simp [apartB, disjB, Stp.fp, memB])) (by simp [apartB, disjB, Stp.fp]) (fun g => .inl (by simp [apartB, disjB, Stp.fp, memB])) s3 s4 s5 s6
end
end Go.Proofs.YtmflfcbebeikcaaGreatDoor.Q

namespace Go.Proofs.YtmflfcbebeikcaaGreatDoor.Q
variable [Amb]

def cnt (D : Nat → Bool) : Nat → Nat
  | 0 => 0
  | k + 1 => cnt D k + (if D k then 0 else 1)
theorem also_ne {D : Nat → Bool} {j k : Nat} (h : k ≠ j) : also D j k = D k := if_neg h
theorem also_eq {D : Nat → Bool} {j : Nat} : also D j j = true := if_pos rfl
theorem cnt_also {D : Nat → Bool} {j : Nat} (hj : D j = false) : ∀ n, j < n → cnt (also D j) n + 1 = cnt D n
  | 0, h => by omega
  | n + 1, h => by
    have hsame : ∀ m, m ≤ j → cnt (also D j) m = cnt D m := by
      intro m
      induction m with
      | zero => intro _; rfl
      | succ m ih =>
        intro hm
        simp only [cnt, ih (by omega), also_ne (D := D) (show m ≠ j by omega)]
    by_cases hjn : j = n
    · subst hjn
      simp only [cnt, hsame j (Nat.le_refl _), also_eq, hj]
      simp
    · have ih := cnt_also hj n (by omega)
      simp only [cnt, also_ne (D := D) (show n ≠ j by omega)]
      omega
theorem cnt_zero {D : Nat → Bool} : ∀ n, cnt D n = 0 → ∀ k, k < n → D k = true
  | 0, _, k, hk => by omega
  | n + 1, h, k, hk => by
    simp only [cnt] at h
    by_cases hkn : k = n
    · subst hkn
      cases hD : D k with
      | true => rfl
      | false => rw [hD] at h; simp at h
    · exact cnt_zero n (by omega) k (by omega)
theorem cnt_least {D : Nat → Bool} : ∀ n, 0 < cnt D n → ∃ k, k < n ∧ D k = false ∧ ∀ i, i < k → D i = true
  | 0, h => by simp [cnt] at h
  | n + 1, h => by
    by_cases h0 : 0 < cnt D n
    · obtain ⟨k, h1, h2, h3⟩ := cnt_least n h0
      exact ⟨k, by omega, h2, h3⟩
    · refine ⟨n, Nat.lt_succ_self _, ?_, cnt_zero n (by omega)⟩
      simp only [cnt] at h
      cases hD : D n with
      | false => rfl
      | true => rw [hD] at h; simp at h; omega

/-- What an effect makes of an object. -/
def effAt (base : Nat) (e : Option Eff) (i : Nat) : Option (Option Ob) := match e with
  | none => none
  | some e => match lkO e.wr i with
    | some ob => some (some ob)
    | none => if base ≤ i ∧ i < base + e.nw.length then some e.nw[i - base]? else none
theorem effAt_upd (H : Hp) (base : Nat) (e : Eff) (i : Nat) : upd H base e i = match effAt base (some e) i with | some v => v | none => H i := by
  unfold upd effAt
  dsimp only
  cases lkO e.wr i with
  | some ob => rfl
  | none =>
    dsimp only
    split <;> rfl
theorem effAt_wrote {base : Nat} {e : Eff} {i : Nat} (h : effAt base (some e) i ≠ none) : i ∈ wrote base e := by
  unfold effAt at h
  dsimp only at h
  unfold wrote newIds
  cases hk : lkO e.wr i with
  | some ob => exact List.mem_append_left _ (List.mem_map.2 ⟨_, lkO_mem hk, rfl⟩)
  | none =>
    rw [hk] at h
    dsimp only at h
    split at h
    · rename_i hh
      refine List.mem_append_right _ (List.mem_range'.2 ⟨i - base, by omega, by omega⟩)
    · exact absurd rfl h
/-- Slots by a function. -/
def EnvF (G : Imm) (φ : Loc) (f : Nat → Option V) (a : Act) : Prop := ∀ t x, f t = some x → ∃ v, a.tmps[t]? = some v ∧ x.rep G φ v

section
variable {P : Program} {n : Nat} {ops : List Oper} {S : Nat → Stp}
variable (hS : ∀ m o, ops[m]? = some o → StpOk P n ops o (S m) (S (m + 1)))
def wrR (ops : List Oper) (S : Nat → Stp) (k : Nat) (t : Nat) : Option (Option V) := match ops[k]? with
  | some o => if o.dst = some t then some (some (S k).x) else none
  | none => none
def wrH (S : Nat → Stp) (k : Nat) (i : Nat) : Option (Option Ob) := effAt (S k).H.length (S k).e i
abbrev curR (ops : List Oper) (S : Nat → Stp) (D : Nat → Bool) : Nat → Option V := cur (fun t => lk (S 0).ρ t) (wrR ops S) D ops.length
abbrev curH (ops : List Oper) (S : Nat → Stp) (D : Nat → Bool) : Hp := cur (hp (S 0).H) (wrH S) D ops.length
  include hS
theorem cur_ρ : ∀ k, k ≤ ops.length → ∀ t, cur (fun t => lk (S 0).ρ t) (wrR ops S) (fun _ => true) k t = lk (S k).ρ t
  | 0, _, t => rfl
  | k + 1, h, t => by
    have ho : ops[k]? = some ops[k] := List.getElem?_eq_getElem (by omega)
    rw [(hS k _ ho).ρ]
    simp only [cur, wrR, ho]
    cases hd : ops[k].dst with
    | none => simp [put]; exact cur_ρ k (by omega) t
    | some d =>
      simp only [put, lk_put]
      by_cases hdt : d = t
      · subst hdt; simp
      · rw [if_neg (by simpa using hdt), if_neg hdt]; exact cur_ρ k (by omega) t
theorem cur_Hh : ∀ k, k ≤ ops.length → ∀ i, cur (hp (S 0).H) (wrH S) (fun _ => true) k i = hp (S k).H i
  | 0, _, i => rfl
  | k + 1, h, i => by
    have ho : ops[k]? = some ops[k] := List.getElem?_eq_getElem (by omega)
    have hk := hS k _ ho
    have ih := cur_Hh k (by omega) i
    rw [hk.H]
    simp only [cur, wrH]
    cases he : (S k).e with
    | none => simpa [effAt] using ih
    | some e =>
      have := upd_hp (S k).H e (hk.tri e he).wr
      rw [← this, effAt_upd]
      cases effAt (S k).H.length (some e) i with
      | some v => rfl
      | none => exact ih
theorem H_grows : ∀ m k, k ≤ m → m ≤ ops.length → (S k).H.length ≤ (S m).H.length := by
  intro m
  induction m with
  | zero => intro k hk _; have : k = 0 := by omega
            subst this; exact Nat.le_refl _
  | succ m ih =>
    intro k hk hm
    by_cases hkm : k = m + 1
    · subst hkm; exact Nat.le_refl _
    · refine Nat.le_trans (ih k (by omega) (by omega)) ?_
      have ho : ops[m]? = some ops[m] := List.getElem?_eq_getElem (by omega)
      rw [(hS m _ ho).H]
      split
      · simp [updL_eq, setAll_len]
      · exact Nat.le_refl _
theorem H_next {k : Nat} (hk : k < ops.length) {e : Eff} (he : (S k).e = some e) : (S (k + 1)).H.length = (S k).H.length + e.nw.length := by
  have ho : ops[k]? = some ops[k] := List.getElem?_eq_getElem hk
  rw [(hS k _ ho).H, he]
  simp [updL_eq, setAll_len]

variable (hC : ∀ m m', m < m' → m' < ops.length → apartB ((S m).fp m) ((S m').fp m') = true ∨ waits ops m' m = true) (hB : slotsB ops = true)
  include hC hB
theorem any_sem {r : Option Nat} (hD0 : ∀ (i : Nat) o, ops[i]? = some o → ∀ c, o.op ≠ .defer c) {Q : Exit → Act → World → Prop} {G0 : Imm} {w0 : World} {φ0 : Loc} {H0 : Hp} {df : List Deferred}
    (hQ : ∀ G w φ a, Rep n G w φ (S ops.length).ρ (S ops.length).H a → a.defers = df → Goes G0 w0 φ0 H0 G w φ (hp (S ops.length).H) → Q .normal a w) :
    ∀ (fuel : Nat) (listed : Array Bool) (a : Act) (G : Imm) (w : World) (φ : Loc), listed.size = ops.length → cnt (fun k => listed.getD k true) ops.length = fuel →
      (∀ j o, ops[j]? = some o → listed.getD j true = true → ∀ i ∈ edges o, listed.getD i true = true) →
      Sit G w φ (curH ops S fun k => listed.getD k true) → EnvF G φ (curR ops S fun k => listed.getD k true) a → a.defers = df → a.tmps.size = n → Goes G0 w0 φ0 H0 G w φ (curH ops S fun k => listed.getD k true) →
      wpAnyIn (Fr r) 0 P .any ops.toArray Q fuel listed a w := by
  have hback : ∀ j o, ops[j]? = some o → ∀ i ∈ edges o, i < j := by
    intro j o ho i hi
    have := List.all_eq_true.1 hB j (List.mem_range.2 (lt_of_get ho))
    rw [ho] at this
    simp only [Bool.and_eq_true] at this
    exact Nat.le_of_ble_eq_true (List.all_eq_true.1 this.1 i hi)
  have hslot : ∀ i j p o, i < j → ops[i]? = some p → ops[j]? = some o → (disjB p.dst.toList (o.dst.toList ++ reads ops o) = true ∧ disjB o.dst.toList (reads ops p) = true) ∨ waits ops j i = true := by
    intro i j p o hij hp ho
    have := List.all_eq_true.1 hB j (List.mem_range.2 (lt_of_get ho))
    rw [ho] at this
    simp only [Bool.and_eq_true] at this
    have := List.all_eq_true.1 this.2 i (List.mem_range.2 hij)
    rw [hp] at this
    simp only [Bool.or_eq_true, Bool.and_eq_true] at this
    rcases this with h | h
    · exact .inl h
    · exact .inr h
  have allDone : ∀ (D : Nat → Bool), (∀ k, k < ops.length → D k = true) → (∀ t, curR ops S D t = lk (S ops.length).ρ t) ∧ curH ops S D = hp (S ops.length).H := by
    intro D hD
    refine ⟨fun t => ?_, funext fun i => ?_⟩
    · rw [← cur_ρ hS ops.length (Nat.le_refl _) t]
      exact cur_upto fun k hk h0 => by rw [hD k hk] at h0; cases h0
    · rw [← cur_Hh hS ops.length (Nat.le_refl _) i]
      exact cur_upto fun k hk h0 => by rw [hD k hk] at h0; cases h0
  have mkEdge : ∀ (o : Oper) (i : Nat), i ∈ edges o ↔ ∃ e ∈ o.after, Region.binds .any e = true ∧ e.on = i := by
    intro o i
    unfold edges
    simp only [List.mem_map, List.mem_filter, Array.mem_toList_iff]
    constructor
    · rintro ⟨e, ⟨h1, h2⟩, h3⟩; exact ⟨e, h1, h2, h3⟩
    · rintro ⟨e, h1, h2, h3⟩; exact ⟨e, ⟨h1, h2⟩, h3⟩
  intro fuel
  induction fuel with
  | zero =>
    intro listed a G w φ hsz hcnt hcl hs henv hdef hn hgo
    have hall := cnt_zero ops.length hcnt
    obtain ⟨d1, d2⟩ := allDone _ hall
    refine ⟨?_, hQ G w φ a ⟨by rw [← d2]; exact hs, fun t x hx => henv t x (by rw [d1]; exact hx), hn⟩ hdef (by rw [← d2]; exact hgo)⟩
    rw [List.eq_nil_iff_forall_not_mem]
    intro j hj
    obtain ⟨h1, o, ho, _⟩ := mem_ready.1 hj
    have := hall j (lt_of_get (by simpa using ho))
    rw [this] at h1; cases h1
  | succ fuel ih =>
    intro listed a G w φ hsz hcnt hcl hs henv hdef hn hgo
    generalize hDdef : (fun k => listed.getD k true) = D at *
    have hDk : ∀ k, listed.getD k true = D k := fun k => by rw [← hDdef]
    refine ⟨fun hr => ?_, fun j hj => ?_⟩
    · exfalso
      obtain ⟨k, h1, h2, h3⟩ := cnt_least ops.length (D := D) (by omega)
      have ho : ops[k]? = some ops[k] := List.getElem?_eq_getElem h1
      have : k ∈ Region.ready .any ops.toArray listed := by
        refine mem_ready.2 ⟨by rw [hDk]; exact h2, ops[k], by simpa using ho, fun e he hb => ?_⟩
        have hlt := hback k _ ho e.on ((mkEdge _ _).2 ⟨e, he, hb, rfl⟩)
        have h4 := h3 e.on hlt
        rw [← hDk] at h4
        have hes : e.on < listed.size := by omega
        simpa [Array.getD_eq_getD_getElem?, hes] using h4
      rw [hr] at this; cases this
    · obtain ⟨hj1, o, ho, hj2⟩ := mem_ready.1 hj
      have ho' : ops[j]? = some o := by simpa using ho
      have hjlt := lt_of_get ho'
      have hDj : D j = false := by rw [← hDk]; exact hj1
      have hedge : ∀ i ∈ edges o, D i = true := by
        intro i hi
        obtain ⟨e, he, hb, rfl⟩ := (mkEdge _ _).1 hi
        have h5 := hj2 e he hb
        rw [← hDk]
        have hlt := hback j o ho' _ hi
        have hes : e.on < listed.size := by omega
        simpa [Array.getD_eq_getD_getElem?, hes] using h5
      have hclD : ∀ j o, ops[j]? = some o → D j = true → ∀ i ∈ edges o, D i = true := by
        intro j o h1 h2 i hi
        rw [← hDk]; exact hcl j o h1 (by rw [hDk]; exact h2) i hi
      have hanc : ∀ i, waits ops j i = true → D i = true := anc_closed hclD hback j o ho' hedge
      have hanc2 : ∀ k, k < ops.length → D k = true → waits ops k j ≠ true := by
        intro k hkl hk hm
        have hok : ops[k]? = some ops[k] := List.getElem?_eq_getElem hkl
        have := anc_closed hclD hback k _ hok (hclD k _ hok hk) j hm
        rw [hDj] at this; cases this
      have hst := hS j o ho'
      -- a slot that the operation reads or writes has been written by nobody else than in the text
      have slotNo : ∀ k t, k ≠ j → D k = !decide (k < j) → k < ops.length → (t ∈ reads ops o ∨ o.dst = some t) → wrR ops S k t = none := by
        intro k t hkj hDk' hkl ht
        have hok : ops[k]? = some ops[k] := List.getElem?_eq_getElem hkl
        simp only [wrR, hok]
        by_cases hd : ops[k].dst = some t
        · exfalso
          rcases Nat.lt_or_gt_of_ne hkj with hlt | hgt
          · rcases hslot k j _ _ hlt hok ho' with ⟨h1, _⟩ | h1
            · refine disjB_spec h1 t (by rw [hd]; simp) ?_
              rcases ht with ht | ht
              · exact List.mem_append_right _ ht
              · exact List.mem_append_left _ (by rw [ht]; simp)
            · have := hanc k h1
              rw [hDk'] at this; simp [hlt] at this
          · rcases hslot j k _ _ hgt ho' hok with ⟨h1, h2⟩ | h1
            · rcases ht with ht | ht
              · exact disjB_spec h2 t (by rw [hd]; simp) ht
              · exact disjB_spec h1 t (by rw [ht]; simp) (List.mem_append_left _ (by rw [hd]; simp))
            · exact hanc2 k hkl (by rw [hDk']; simp; omega) h1
        · rw [if_neg hd]
      have slotRead : ∀ t, t ∈ reads ops o → curR ops S D t = lk (S j).ρ t := by
        intro t ht
        rw [← cur_ρ hS j (by omega) t]
        refine cur_read (by omega) (fun k hk h0 => ?_) (fun k h1 h2 h0 => ?_)
        · exact slotNo k t (by omega) (by rw [h0]; simp [hk]) (by omega) (.inl ht)
        · by_cases hkj : k = j
          · subst hkj; rw [hDj] at h0; cases h0
          · exact slotNo k t hkj (by rw [h0]; simp; omega) h2 (.inl ht)
      -- likewise objects
      have objNo : ∀ e k i, (S j).e = some e → k ≠ j → D k = !decide (k < j) → k < ops.length → i ∈ touch (S j).H.length e → wrH S k i = none := by
        intro e k i he hkj hDk' hkl hi
        cases hw : wrH S k i with
        | none => rfl
        | some v =>
          exfalso
          simp only [wrH] at hw
          cases hek : (S k).e with
          | none => rw [hek] at hw; simp [effAt] at hw
          | some e' =>
            rw [hek] at hw
            have hwr := effAt_wrote (base := (S k).H.length) (e := e') (i := i) (by rw [hw]; simp)
            have hfj : (S j).fp j = ⟨j, touch (S j).H.length e, wrote (S j).H.length e⟩ := by simp [Stp.fp, he]
            have hfk : (S k).fp k = ⟨k, touch (S k).H.length e', wrote (S k).H.length e'⟩ := by simp [Stp.fp, hek]
            rcases Nat.lt_or_gt_of_ne hkj with hlt | hgt
            · rcases hC k j hlt hjlt with h1 | h1
              · rw [hfj, hfk] at h1
                simp only [apartB, Bool.and_eq_true] at h1
                exact disjB_spec h1.1 i hwr hi
              · have := hanc k h1
                rw [hDk'] at this; simp [hlt] at this
            · rcases hC j k hgt hkl with h1 | h1
              · rw [hfj, hfk] at h1
                simp only [apartB, Bool.and_eq_true] at h1
                exact disjB_spec h1.2 i hwr hi
              · exact hanc2 k hkl (by rw [hDk']; simp; omega) h1
      have objRead : ∀ e i, (S j).e = some e → i ∈ touch (S j).H.length e → curH ops S D i = hp (S j).H i := by
        intro e i he hi
        rw [← cur_Hh hS j (by omega) i]
        refine cur_read (by omega) (fun k hk h0 => ?_) (fun k h1 h2 h0 => ?_)
        · exact objNo e k i he (by omega) (by rw [h0]; simp [hk]) (by omega) hi
        · by_cases hkj : k = j
          · subst hkj; rw [hDj] at h0; cases h0
          · exact objNo e k i he hkj (by rw [h0]; simp; omega) h2 hi
      have hreadEnv : ∀ t x, t ∈ reads ops o → lk (S j).ρ t = some x → ∃ v, a.tmps[t]? = some v ∧ x.rep G φ v := by
        intro t x ht hx
        exact henv t x (by rw [slotRead t ht]; exact hx)
      have hwant := hst.gd G φ a hreadEnv
      have hlisted : (fun k => (listed.setIfInBounds j true).getD k true) = also D j := by
        funext k
        unfold also
        rw [← hDk]
        simp only [Array.getD_eq_getD_getElem?, Array.getElem?_setIfInBounds]
        by_cases hkj : j = k
        · subst hkj; simp [hsz, hjlt]
        · rw [if_neg hkj, if_neg (Ne.symm hkj)]
      -- the next state of slots
      have nextEnv : ∀ (G' : Imm) (φ' : Loc) (v : Value), G.le G' → φ.le φ' → (S j).x.rep G' φ' v → EnvF G' φ' (curR ops S (also D j)) (a.put o.dst v) := by
        intro G' φ' v hle hple hx t y hy
        by_cases hd : o.dst = some t
        · have hw : wrR ops S j t = some (some (S j).x) := by simp [wrR, ho', hd]
          have h1 : curR ops S (also D j) t = some (S j).x := cur_same hw hjlt fun k h1 h2 h0 => slotNo k t (by omega) (by rw [h0]; simp; omega) h2 (.inr hd)
          rw [h1] at hy
          injection hy with hy; subst hy
          have hdn : t < n := by
            have := hst.dst
            unfold dstB at this
            rw [hd] at this
            exact Nat.le_of_ble_eq_true this
          exact ⟨v, by rw [hd]; simp [Act.put, hn, hdn], hx⟩
        · have hw : wrR ops S j t = none := by simp [wrR, ho', hd]
          have h1 : curR ops S (also D j) t = curR ops S D t := cur_other hw
          rw [h1] at hy
          obtain ⟨u, u1, u2⟩ := henv t y hy
          refine ⟨u, ?_, y.rep_mono hle hple u u2⟩
          cases hdd : o.dst with
          | none => exact u1
          | some d =>
            have hne : d ≠ t := fun e => hd (by rw [hdd, e])
            simp [Act.put, Array.getElem?_setIfInBounds_ne hne, u1]
      have hcnt' : cnt (fun k => (listed.setIfInBounds j true).getD k true) ops.length = fuel := by
        rw [hlisted]
        have := cnt_also hDj ops.length hjlt
        omega
      have hcl' : ∀ k o, ops[k]? = some o → (listed.setIfInBounds j true).getD k true = true → ∀ i ∈ edges o, (listed.setIfInBounds j true).getD i true = true := by
        intro k ok hk h1 i hi
        have e1 : (listed.setIfInBounds j true).getD k true = also D j k := by rw [← hlisted]
        have e2 : (listed.setIfInBounds j true).getD i true = also D j i := by rw [← hlisted]
        rw [e1] at h1
        rw [e2]
        unfold also at h1 ⊢
        by_cases hij : i = j
        · rw [if_pos hij]
        · rw [if_neg hij]
          by_cases hkj : k = j
          · subst hkj
            rw [ho'] at hk; injection hk with hk; subst hk
            exact hedge i hi
          · rw [if_neg hkj] at h1
            exact hclD k ok hk h1 i hi
      show wpOpIn (Fr r) 0 P ops.toArray Q j _ a w
      unfold wpOpIn
      rw [ho]
      dsimp only
      cases he : (S j).e with
      | some e =>
        rw [he] at hwant
        have hwant : Region.wanted o (yielded ops.toArray a.tmps) = true := hwant
        rw [if_pos hwant]
        refine op_in (hD0 j o ho') ?_
        have htri := hst.tri e he
        have hnewIn : ∀ i, (S j).H.length ≤ i → i < (S j).H.length + e.nw.length → i ∈ touch (S j).H.length e := fun i h1 h2 => by
          refine List.mem_append_right _ (List.mem_append_right _ (List.mem_range'.2 ⟨i - (S j).H.length, by omega, by omega⟩))
        refine htri.go a G w φ (curH ops S D) _ Q hs (fun y Y hy hY => ?_) (fun i hi => ?_) (fun i h1 h2 => ?_) fun v G' w' φ' q1 q2 q3 => ?_
        · cases y with
          | tmp t =>
            obtain ⟨u, u1, u2⟩ := hreadEnv t Y (by
              unfold reads
              refine List.mem_append_left _ (List.mem_filterMap.2 ⟨.tmp t, by simpa using hy, rfl⟩)) hY
            simpa [Act.eval, Array.getD_eq_getD_getElem?, u1] using u2
          | const c => exact ofConst_rep hY G φ
          | global g => cases hY
          | func f => injection hY with hY; subst hY; exact ⟨[], [], rfl, rfl, rfl⟩
        · refine objRead e i he ?_
          rcases hi with hi | ⟨p, hp, rfl⟩
          · exact List.mem_append_left _ hi
          · exact List.mem_append_right _ (List.mem_append_left _ (List.mem_map.2 ⟨p, hp, rfl⟩))
        · rw [objRead e i he (hnewIn i h1 h2)]
          exact List.getElem?_eq_none h1
        · have hupd : upd (curH ops S D) (S j).H.length e = curH ops S (also D j) := by
            funext i
            rw [effAt_upd]
            cases hw : effAt (S j).H.length (some e) i with
            | none =>
              have hw' : wrH S j i = none := by simp only [wrH, he, hw]
              exact (cur_other hw').symm
            | some ob =>
              have hw' : wrH S j i = some ob := by simp only [wrH, he, hw]
              refine (cur_same hw' hjlt fun k h1 h2 h0 => objNo e k i he (by omega) (by rw [h0]; simp; omega) h2 ?_).symm
              exact List.mem_append_right _ (effAt_wrote (by rw [hw]; simp))
          rw [hupd] at q1 q2
          have hx : (S j).x = e.x := by simp [Stp.x, he]
          refine ih _ _ G' w' φ' (by simp [hsz]) hcnt' hcl' (by rw [hlisted]; exact q1) (by rw [hlisted]; exact nextEnv G' φ' v q2.le q2.ple (by rw [hx]; exact q3)) (by rw [put_defers]; exact hdef) (by rw [put_size]; exact hn) (by rw [hlisted]; exact hgo.trans q2)
      | none =>
        rw [he] at hwant
        have hwant : Region.wanted o (yielded ops.toArray a.tmps) = false := hwant
        rw [if_neg (by rw [hwant]; simp)]
        have hH : curH ops S (also D j) = curH ops S D := by
          funext i
          exact cur_other (by simp [wrH, he, effAt])
        have hx : (S j).x = .tup [] := by simp [Stp.x, he]
        exact ⟨fun _ _ => trivial, ih _ _ G w φ (by simp [hsz]) hcnt' hcl' (by rw [hlisted, hH]; exact hs) (by rw [hlisted]; exact nextEnv G φ undef (Imm.le.refl _) (Loc.le.refl _) (by rw [hx]; exact ⟨[], rfl, rfl⟩)) (by rw [put_defers]; exact hdef) (by rw [put_size]; exact hn) (by rw [hlisted, hH]; exact hgo)⟩
end
end Go.Proofs.YtmflfcbebeikcaaGreatDoor.Q

namespace Go.Proofs.YtmflfcbebeikcaaGreatDoor.Q
variable [Amb]

/-- How a piece of code may be left. -/
inductive PX where
  | normal
  | exit (id : Nat)
  | goto (l : Nat)
  | ret
def PX.to : PX → Exit
  | .normal => .normal
  | .exit id => .exit id
  | .goto l => .goto l
  | .ret => .ret
abbrev Post := PX → Env → List Ob → Prop
/-- How many objects were lent; in a round of a range over a function: that one's record. -/
structure Md where
  k : Nat
  r : Option Nat
instance (k : Nat) : OfNat Md k := ⟨⟨k, none⟩⟩
/-- The marks that ranges over functions have left: new blocks that nobody owns, each empty. -/
def Mk (base : Nat) (w : World) (φ : Loc) (H : Hp) : List Deferred → Prop
  | [] => True
  | d :: ds => (d ∉ ds ∧ ∃ D, d = { target := .collected D, args := #[] } ∧ base ≤ D ∧ w.heap[D]? = some (.deferred (some [])) ∧ ¬ ownS φ H D) ∧ Mk base w φ H ds
theorem Mk.goes {base : Nat} {G G' : Imm} {w w' : World} {φ φ' : Loc} {H H' : Hp} (hg : Goes G w φ H G' w' φ' H') : ∀ {ds : List Deferred}, Mk base w φ H ds → Mk base w' φ' H' ds
  | [], _ => trivial
  | d :: ds, ⟨⟨h0, D, h1, h2, h3, h4⟩, h5⟩ => by
    have hlt := (Array.getElem?_eq_some_iff.1 h3).1
    refine ⟨⟨h0, D, h1, h2, (hg.block D hlt h4).1.trans h3, fun ho => ?_⟩, Mk.goes hg h5⟩
    rcases hg.owns D ho with h | h
    · exact h4 h
    · omega
theorem Mk.owns {base : Nat} {w : World} {φ φ' : Loc} {H H' : Hp} (hg : ∀ b, ownS φ' H' b → ownS φ H b) : ∀ {ds : List Deferred}, Mk base w φ H ds → Mk base w φ' H' ds
  | [], _ => trivial
  | d :: ds, ⟨⟨h0, D, h1, h2, h3, h4⟩, h5⟩ => ⟨⟨h0, D, h1, h2, h3, fun ho => h4 (hg D ho)⟩, Mk.owns hg h5⟩
/-- What was left as it was since the function's start; the marks. -/
structure GoM (G0 : Imm) (w0 : World) (φ0 : Loc) (H0 : Hp) (G : Imm) (w : World) (φ : Loc) (H : Hp) (a : Act) : Prop where
  go : Goes G0 w0 φ0 H0 G w φ H
  mks : Mk w0.heap.size w φ H a.defers
theorem GoM.trans {G0 : Imm} {w0 : World} {φ0 : Loc} {H0 : Hp} {G : Imm} {w : World} {φ : Loc} {H : Hp} {a : Act} {G' : Imm} {w' : World} {φ' : Loc} {H' : Hp} {a' : Act} (h : GoM G0 w0 φ0 H0 G w φ H a) (k : Goes G w φ H G' w' φ' H') (hd : a'.defers = a.defers) : GoM G0 w0 φ0 H0 G' w' φ' H' a' :=
  ⟨h.go.trans k, by rw [hd]; exact h.mks.goes k⟩
/-- From this state the code comes to such as Q says (n: the frame's slots; k: so many objects were lent). -/
def SWp (P : Program) (n : Nat) (k : Md) (c : Code) (ρ : Env) (H : List Ob) (Q : Post) : Prop :=
  ∀ (G0 : Imm) (w0 : World) (φ0 : Loc) (H0 : Hp) (G : Imm) (w : World) (φ : Loc) (a : Act) (Qc : Exit → Act → World → Prop), (∀ i, k.k ≤ i → ∀ m, φ0 i m = none) → Rep n G w φ ρ H a → GoM G0 w0 φ0 H0 G w φ (hp H) a →
    (∀ pe ρ' H' G' w' φ' a', Q pe ρ' H' → Rep n G' w' φ' ρ' H' a' → GoM G0 w0 φ0 H0 G' w' φ' (hp H') a' → Qc pe.to a' w') → c.wpIn (Fr k.r) 0 P Qc a w
/-- The facts about a program that the logic goes by. -/
structure POk (P : Program) (tt : TT) : Prop where
  tt : TTok P tt
  mixed : P.follows .mixedOrders = true

section
variable {P : Program} {tt : TT} {n : Nat} {k : Md} {ρ : Env} {H : List Ob} {Q : Post}
theorem SWp.mono {c : Code} {Q' : Post} (h : SWp P n k c ρ H Q) (hk : ∀ pe ρ' H', Q pe ρ' H' → Q' pe ρ' H') : SWp P n k c ρ H Q' :=
  fun G0 w0 φ0 H0 G w φ a Qc h0 hr hg hQ => h G0 w0 φ0 H0 G w φ a Qc h0 hr hg fun pe ρ' H' G' w' φ' a' hq => hQ pe ρ' H' G' w' φ' a' (hk pe ρ' H' hq)
def seqK (next : Env → List Ob → Prop) (Q : Post) : Post := fun pe ρ H => match pe with
  | .normal => next ρ H
  | pe => Q pe ρ H
theorem SWp.seq {x y : Code} (h : SWp P n k x ρ H (seqK (fun ρ' H' => SWp P n k y ρ' H' Q) Q)) : SWp P n k (.seq x y) ρ H Q := by
  intro G0 w0 φ0 H0 G w φ a Qc h0 hr hg hQ
  refine wpIn_seq (h G0 w0 φ0 H0 G w φ a _ h0 hr hg fun pe ρ' H' G' w' φ' a' hq hr' hg' => ?_)
  cases pe with
  | normal => exact hq G0 w0 φ0 H0 G' w' φ' a' Qc h0 hr' hg' hQ
  | exit id => exact hQ _ ρ' H' G' w' φ' a' hq hr' hg'
  | goto l => exact hQ _ ρ' H' G' w' φ' a' hq hr' hg'
  | ret => exact hQ _ ρ' H' G' w' φ' a' hq hr' hg'
theorem SWp.skip (h : Q .normal ρ H) : SWp P n k .skip ρ H Q := fun G0 w0 φ0 H0 G w φ a Qc h0 hr hg hQ => wpIn_skip (hQ .normal ρ H G w φ a h hr hg)
theorem SWp.label {l : Nat} (h : Q .normal ρ H) : SWp P n k (.label l) ρ H Q := fun G0 w0 φ0 H0 G w φ a Qc h0 hr hg hQ => wpIn_label (hQ .normal ρ H G w φ a h hr hg)
theorem SWp.exit {id : Nat} (h : Q (.exit id) ρ H) : SWp P n k (.exit id) ρ H Q := fun G0 w0 φ0 H0 G w φ a Qc h0 hr hg hQ => wpIn_exit (hQ (.exit id) ρ H G w φ a h hr hg)
theorem SWp.goto {l : Nat} (h : Q (.goto l) ρ H) : SWp P n k (.goto l) ρ H Q := fun G0 w0 φ0 H0 G w φ a Qc h0 hr hg hQ => wpIn_goto (hQ (.goto l) ρ H G w φ a h hr hg)
theorem SWp.ret (h : Q .ret ρ H) : SWp P n k .ret ρ H Q := fun G0 w0 φ0 H0 G w φ a Qc h0 hr hg hQ => wpIn_ret (hQ .ret ρ H G w φ a h hr hg)
def condC (ρ : Env) (c : Operand) (A B : Prop) : Prop := match ev ρ c with
  | some (.d (.bool b)) => brP b A B
  | _ => False
theorem SWp.cond {c : Operand} {x y : Code} (h : condC ρ c (SWp P n k x ρ H Q) (SWp P n k y ρ H Q)) : SWp P n k (.cond c x y) ρ H Q := by
  intro G0 w0 φ0 H0 G w φ a Qc h0 hr hg hQ
  unfold condC at h
  split at h
  · rename_i b hb
    have hc : a.eval c = .bool b := ev_rep hr.env hb
    refine wpIn_cond hc ?_
    cases b with
    | true => exact h G0 w0 φ0 H0 G w φ a Qc h0 hr hg hQ
    | false => exact h G0 w0 φ0 H0 G w φ a Qc h0 hr hg hQ
  · exact h.elim
def blkK (id : Nat) (Q : Post) : Post := fun pe ρ H => match pe with
  | .exit i => bif Nat.beq i id then Q .normal ρ H else Q (.exit i) ρ H
  | pe => Q pe ρ H
theorem SWp.block {id : Nat} {c : Code} (h : SWp P n k c ρ H (blkK id Q)) : SWp P n k (.block id c) ρ H Q := by
  intro G0 w0 φ0 H0 G w φ a Qc h0 hr hg hQ
  refine wpIn_block (h G0 w0 φ0 H0 G w φ a _ h0 hr hg fun pe ρ' H' G' w' φ' a' hq hr' hg' => ?_)
  cases pe with
  | normal => exact hQ _ ρ' H' G' w' φ' a' hq hr' hg'
  | exit i =>
    simp only [PX.to, Exit.inBlock]
    simp only [blkK] at hq
    by_cases hi : i = id
    · subst hi
      rw [if_pos rfl]
      have : Nat.beq i i = true := by simp
      rw [this] at hq
      exact hQ .normal ρ' H' G' w' φ' a' hq hr' hg'
    · rw [if_neg hi]
      have : Nat.beq i id = false := by
        cases hb : Nat.beq i id with
        | false => rfl
        | true => exact absurd (Nat.eq_of_beq_eq_true hb) hi
      rw [this] at hq
      exact hQ (.exit i) ρ' H' G' w' φ' a' hq hr' hg'
  | goto l => exact hQ _ ρ' H' G' w' φ' a' hq hr' hg'
  | ret => exact hQ _ ρ' H' G' w' φ' a' hq hr' hg'
theorem SWp.region {id : Nat} {ops : Array Oper} (hP : POk P tt) (h : pops P tt n ops.toList ops.toList ρ H (Q .normal)) : SWp P n k (.region id ops false) ρ H Q := by
  intro G0 w0 φ0 H0 G w φ a Qc h0 hr hg hQ
  refine wpIn_region_list ?_
  have := pops_sem hP.tt k.r (Q := Qc) ops.toList ρ H h G w φ (hp H) G w φ a hr (Goes.refl _ _ _ _) fun ρ' H' G' w' φ' a' hq hr' hg' hd' => hQ .normal ρ' H' G' w' φ' a' hq hr' (hg.trans hg' hd')
  simpa using this
/-- No operation of the region is a defer statement. -/
def noDefer : List Oper → Bool
  | [] => true
  | o :: r => (match o.op with | .defer _ => false | _ => true) && noDefer r
theorem noDefer_get : ∀ {l : List Oper}, noDefer l = true → ∀ (i : Nat) o, l[i]? = some o → ∀ c, o.op ≠ .defer c
  | [], _, i, o, ho, c => by simp at ho
  | p :: r, h, 0, o, ho, c => by
    simp at ho; subst ho
    unfold noDefer at h
    intro hc
    rw [hc] at h
    simp at h
  | p :: r, h, i + 1, o, ho, c => by
    unfold noDefer at h
    simp only [Bool.and_eq_true] at h
    exact noDefer_get h.2 i o (by simpa using ho) c
theorem SWp.regionAny {id : Nat} {ops : Array Oper} (hP : POk P tt) (hB : slotsB ops.toList = true) (hD : noDefer ops.toList = true) (h : pd P tt n ops.toList ops.toList 0 ρ H [] (Q .normal)) : SWp P n k (.region id ops true) ρ H Q := by
  intro G0 w0 φ0 H0 G w φ a Qc h0 hr hg hQ
  obtain ⟨S, s1, s2, s3, _, s5, s6⟩ := pd_plan hP.tt ops.toList 0 ρ H [] h
  simp only [Nat.zero_add] at s3 s5 s6
  refine wpIn_region_any hP.mixed ?_
  have hsz : (Array.replicate ops.size false).size = ops.toList.length := by simp
  have hfalse : ∀ k, k < ops.toList.length → (Array.replicate ops.size false).getD k true = false := by
    intro k hk
    have : k < ops.size := by simpa using hk
    simp [Array.getD_eq_getD_getElem?, this]
  have hcnt : ∀ m, m ≤ ops.toList.length → cnt (fun k => (Array.replicate ops.size false).getD k true) m = m := by
    intro m
    induction m with
    | zero => intro _; rfl
    | succ m ih =>
      intro hm
      simp only [cnt, ih (by omega), hfalse m (by omega)]
      simp
  have hcur : ∀ {α : Type} (init : Nat → α) (wr : Nat → Nat → Option α) (l : Nat), cur init wr (fun k => (Array.replicate ops.size false).getD k true) ops.toList.length l = init l := by
    intro α init wr l
    refine cur_from (j := 0) (Nat.zero_le _) fun k _ hk h0 => ?_
    simp only [hfalse k hk] at h0; cases h0
  have hd := Goes.drew G w φ (hp H)
  have := any_sem (P := P) (n := n) (ops := ops.toList) (S := S) s3 s5 hB (r := k.r) (noDefer_get hD) (Q := Qc) (G0 := G) (w0 := w) (φ0 := φ) (H0 := hp H) (df := a.defers)
    (fun G' w' φ' a' hr' hd' hg' => hQ .normal _ _ G' w' φ' a' s6 hr' (hg.trans hg' hd')) ops.size (Array.replicate ops.size false) a G w.drew φ hsz (by rw [hcnt _ (Nat.le_refl _)]; simp)
    (fun j o ho h1 => by
      have hj := lt_of_get ho
      rw [hfalse j hj] at h1; cases h1)
    (by
      have : curH ops.toList S (fun k => (Array.replicate ops.size false).getD k true) = hp H := by
        funext i
        exact (hcur _ _ i).trans (by rw [s2])
      rw [this]; exact hr.sit.drew)
    (fun t x hx => hr.env t x (by
      have h1 := (hcur (fun t => lk (S 0).ρ t) (wrR ops.toList S) t).symm.trans hx
      rw [← s1]; exact h1)) rfl hr.size
    (by
      have : curH ops.toList S (fun k => (Array.replicate ops.size false).getD k true) = hp H := by
        funext i
        exact (hcur _ _ i).trans (by rw [s2])
      rw [this]; exact hd)
  simpa using this

/-! ### less is known -/
def Sub (f : Nat → Option Nat) (ρ : Env) : Env → Prop
  | [] => True
  | (t, x0) :: r => (match lk ρ t with | some x => x.ren f = some x0 | none => False) ∧ Sub f ρ r
def Sub0 (ρ : Env) : Env → Prop
  | [] => True
  | (t, x0) :: r => lk ρ t = some x0 ∧ Sub0 ρ r
/-- The first state says no more than the second: fewer slots; of the objects those of these numbers (the k that were lent among them, as they were). -/
def Le (k : Md) (ρ0 : Env) (H0 : List Ob) (ρ : Env) (H : List Ob) : Prop := (Sub0 ρ ρ0 ∧ H = H0) ∨ ∃ ids, (nodupB ids = true ∧ ids.take k.k = List.range k.k) ∧ obsAt H (pos ids) ids = some H0 ∧ Sub (pos ids) ρ ρ0
theorem Le.same {ρ0 : Env} (h : Sub0 ρ ρ0) : Le k ρ0 H ρ H := .inl ⟨h, rfl⟩
theorem sub0_lk {ρ0 : Env} (h : Sub0 ρ ρ0) : ∀ t x, lk ρ0 t = some x → lk ρ t = some x := by
  induction ρ0 with
  | nil => intro t x hx; cases hx
  | cons p r ih =>
    obtain ⟨k, y⟩ := p
    intro t x hx
    rw [lk_put] at hx
    split at hx
    · rename_i hk; injection hx with hx; subst hx; subst hk; exact h.1
    · exact ih h.2 t x hx
theorem sub_lk {f : Nat → Option Nat} {ρ0 : Env} (h : Sub f ρ ρ0) : ∀ t x, lk ρ0 t = some x → ∃ y, lk ρ t = some y ∧ y.ren f = some x := by
  induction ρ0 with
  | nil => intro t x hx; cases hx
  | cons p r ih =>
    obtain ⟨k, y⟩ := p
    intro t x hx
    rw [lk_put] at hx
    split at hx
    · rename_i hk
      injection hx with hx; subst hx; subst hk
      have := h.1
      split at this
      · rename_i z hz; exact ⟨z, hz, this⟩
      · exact this.elim
    · exact ih h.2 t x hx
theorem Rep.less {ρ0 : Env} {H0 : List Ob} {G : Imm} {w : World} {φ : Loc} {a : Act} {G1 : Imm} {w1 : World} {φ1 : Loc} {H1 : Hp} (hk : ∀ i, k.k ≤ i → ∀ m, φ1 i m = none) (hr : Rep n G w φ ρ H a) (hg : GoM G1 w1 φ1 H1 G w φ (hp H) a) (h : Le k ρ0 H0 ρ H) :
    ∃ φ', Rep n G w φ' ρ0 H0 a ∧ GoM G1 w1 φ1 H1 G w φ' (hp H0) a := by
  rcases h with ⟨h1, rfl⟩ | ⟨ids, ⟨h1, hk1⟩, h2, h3⟩
  · exact ⟨φ, ⟨hr.sit, fun t x hx => hr.env t x (sub0_lk h1 t x hx), hr.size⟩, hg⟩
  · have hnd := nodupB_spec h1
    have hls := lent_sit hr.sit hnd (fun i _ => rfl) h2
    obtain ⟨hl, hget⟩ := obsAt_get h2
    have hown : ∀ b, ownS (lentLoc φ ids) (hp H0) b → ownS φ (hp H) b := fun b hb => by
      obtain ⟨i, ob, hi, ho⟩ := hb
      have hil := lt_of_get hi
      have e1 : ids[i]? = some ids[i] := List.getElem?_eq_getElem (by omega)
      obtain ⟨ob0, ob', g1, g2, g3⟩ := hget i _ e1
      have hi' : H0[i]? = some ob := hi
      rw [hi'] at g3; injection g3 with g3; subst g3
      refine ⟨ids[i], ob0, g1, ?_⟩
      rw [← Ob.ren_own (φ2 := lentLoc φ ids) (i := i) (fun m => by unfold lentLoc; rw [e1]) g2]
      exact ho
    refine ⟨lentLoc φ ids, ⟨hls, fun t x hx => ?_, hr.size⟩, ⟨⟨hg.go.le, fun i m z hz => ?_, hg.go.os, hg.go.tape, hg.go.output, hg.go.size, hg.go.block, fun b hb => hg.go.owns b (hown b hb)⟩, hg.mks.owns hown⟩⟩
    · obtain ⟨y, hy, hyx⟩ := sub_lk h3 t x hx
      obtain ⟨v, v1, v2⟩ := hr.env t y hy
      exact ⟨v, v1, V.ren_rep (lent_moves φ ids) _ _ _ hyx v2⟩
    · have hi : i < k.k := by
        rcases Nat.lt_or_ge i k.k with h | h
        · exact h
        · rw [hk i h m] at hz; cases hz
      have e1 : ids[i]? = some i := by
        have : (ids.take k.k)[i]? = (List.range k.k)[i]? := by rw [hk1]
        rw [List.getElem?_take, if_pos hi, List.getElem?_range hi] at this
        exact this
      unfold lentLoc
      rw [e1]
      exact hg.go.ple i m z hz
theorem SWp.weaken {c : Code} {ρ0 : Env} {H0 : List Ob} (h : SWp P n k c ρ0 H0 Q) (hle : Le k ρ0 H0 ρ H) : SWp P n k c ρ H Q := by
  intro G1 w1 φ1 H1 G w φ a Qc h0 hr hg hQ
  obtain ⟨φ', hr', hg'⟩ := hr.less h0 hg hle
  exact h G1 w1 φ1 H1 G w φ' a Qc h0 hr' hg' hQ
/-- A loop: what holds at every round's head, and what every round makes smaller. -/
theorem SWp.loop {α : Type} {c : Code} (I : α → Prop) (st : α → Env × List Ob) (μ : α → Nat) (x0 : α) (h0 : I x0) (hle : Le k (st x0).1 (st x0).2 ρ H)
    (round : ∀ x, I x → SWp P n k c (st x).1 (st x).2 (seqK (fun ρ' H' => ∃ y, I y ∧ μ y < μ x ∧ Le k (st y).1 (st y).2 ρ' H') Q)) : SWp P n k (.loop c) ρ H Q := by
  intro G1 w1 φ1 H1 G w φ a Qc hk hr hg hQ b kk cs hro hb hrm
  have key : ∀ (m : Nat) (a : Act) (w : World), (∃ x G φ, I x ∧ μ x = m ∧ Rep n G w φ (st x).1 (st x).2 a ∧ GoM G1 w1 φ1 H1 G w φ (hp (st x).2) a) →
      ∃ e a' w', Qc e a' w' ∧ ArrivesIn (Machine.fenced P (Fr k.r)) P (lone (b.atR a (.code c :: .inLoop c :: kk)) cs w) b kk cs e a' w' := by
    intro m
    induction m using Nat.strongRecOn with
    | _ m ih =>
      intro a w ⟨x, G, φ, hI, hm, hr, hg⟩
      have := round x hI G1 w1 φ1 H1 G w φ a (Exit.then (fun a' w' => ∃ m', m' < m ∧ ∃ x G φ, I x ∧ μ x = m' ∧ Rep n G w' φ (st x).1 (st x).2 a' ∧ GoM G1 w1 φ1 H1 G w' φ (hp (st x).2) a') Qc) hk hr hg fun pe ρ' H' G' w' φ' a' hq hr' hg' => by
        cases pe with
        | normal =>
          obtain ⟨y, hy, hlt, hle'⟩ := hq
          obtain ⟨φ2, hr2, hg2⟩ := hr'.less hk hg' hle'
          exact ⟨μ y, by omega, y, G', φ2, hy, rfl, hr2, hg2⟩
        | exit id => exact hQ _ ρ' H' G' w' φ' a' hq hr' hg'
        | goto l => exact hQ _ ρ' H' G' w' φ' a' hq hr' hg'
        | ret => exact hQ _ ρ' H' G' w' φ' a' hq hr' hg'
      obtain ⟨e, a1, w2, hq, harr⟩ := this b (.inLoop c :: kk) cs hro hb hrm
      cases e with
      | normal =>
        obtain ⟨m', hlt, hx⟩ := hq
        obtain ⟨e2, a2, w3, hq2, harr2⟩ := ih m' hlt a1 w2 hx
        exact ⟨e2, a2, w3, hq2, .of_steps (StepsIn.trans harr (.one (fenced_calm hb hrm rfl) stepR_inLoop)) harr2⟩
      | exit id => exact ⟨_, a1, w2, hq, .pass (x := .inLoop c) rfl (fun _ _ => .inl (by simp)) harr⟩
      | goto l => exact ⟨_, a1, w2, hq, .pass (x := .inLoop c) rfl (fun _ _ => .inl (by simp)) harr⟩
      | ret => exact ⟨_, a1, w2, hq, .pass (x := .inLoop c) rfl (fun _ _ => .inl (by simp)) harr⟩
      | panic ch => exact ⟨_, a1, w2, hq, .pass (x := .inLoop c) rfl (fun _ _ => .inl (by simp)) harr⟩
      | outgrown => exact ⟨_, a1, w2, hq, .pass (x := .inLoop c) rfl (fun _ _ => .inl (by simp)) harr⟩
  obtain ⟨φ', hr', hg'⟩ := hr.less hk hg hle
  obtain ⟨e, a', w', hq, harr⟩ := key _ a w ⟨x0, G, φ', h0, rfl, hr', hg'⟩
  exact ⟨e, a', w', hq, .of_steps (.one (fenced_calm hb hrm rfl) stepR_loop) harr⟩
end
end Go.Proofs.YtmflfcbebeikcaaGreatDoor.Q

namespace Go.Proofs.YtmflfcbebeikcaaGreatDoor.Q
variable [Amb]
/-- What a piece of code comes to; at a loop, a scope, a range over a function the logic's own word is left. -/
def step (P : Program) (tt : TT) (n : Nat) (k : Md) (c : Code) : Env → List Ob → Post → Prop :=
  @Code.rec (fun _ => Env → List Ob → Post → Prop)
    (fun ρ H Q => Q .normal ρ H)
    (fun _ ops draw ρ H Q => match draw with
      | false => pops P tt n ops.toList ops.toList ρ H (Q .normal)
      | true => pd P tt n ops.toList ops.toList 0 ρ H [] (Q .normal))
    (fun _ _ a b ρ H Q => a ρ H (seqK (fun ρ' H' => b ρ' H' Q) Q))
    (fun c _ _ x y ρ H Q => condC ρ c (x ρ H Q) (y ρ H Q))
    (fun id _ c ρ H Q => c ρ H (blkK id Q))
    (fun c _ ρ H Q => SWp P n k (.loop c) ρ H Q)
    (fun f ps a b _ _ ρ H Q => SWp P n k (.rangeFunc f ps a b) ρ H Q)
    (fun id ρ H Q => Q (.exit id) ρ H)
    (fun c _ ρ H Q => SWp P n k (.scope c) ρ H Q)
    (fun _ ρ H Q => Q .normal ρ H)
    (fun l ρ H Q => Q (.goto l) ρ H)
    (fun ρ H Q => Q .ret ρ H)
    (fun _ _ _ _ => False) c
/-- Every region of the code whose order is open has its slots apart. -/
def codeOk : Code → Bool
  | .region _ ops draw => match draw with
    | true => slotsB ops.toList && noDefer ops.toList
    | false => true
  | .seq a b => codeOk a && codeOk b
  | .cond _ x y => codeOk x && codeOk y
  | .block _ c => codeOk c
  | _ => true
section
variable {P : Program} {tt : TT} {n : Nat} {k : Md}
theorem condC_mono {ρ : Env} {c : Operand} {A B A' B' : Prop} (h : condC ρ c A B) (ha : A → A') (hb : B → B') : condC ρ c A' B' := by
  unfold condC at *
  split
  · rename_i b hbb
    rw [hbb] at h
    cases b
    · exact hb h
    · exact ha h
  · rename_i hno
    split at h
    · rename_i b hbb; exact absurd hbb (hno b)
    · exact h
theorem SWp.go (hP : POk P tt) {c : Code} : codeOk c = true → ∀ {ρ : Env} {H : List Ob} {Q : Post}, step P tt n k c ρ H Q → SWp P n k c ρ H Q := by
  induction c with
  | skip => intro _ ρ H Q h; exact SWp.skip h
  | region id ops draw =>
    intro hc ρ H Q h
    cases draw with
    | false => exact SWp.region hP h
    | true => exact SWp.regionAny hP ((Bool.and_eq_true _ _).mp hc).1 ((Bool.and_eq_true _ _).mp hc).2 h
  | seq a b iha ihb =>
    intro hc ρ H Q h
    simp only [codeOk, Bool.and_eq_true] at hc
    refine SWp.seq (SWp.mono (iha hc.1 h) fun pe ρ' H' hq => ?_)
    cases pe with
    | normal => exact ihb hc.2 hq
    | exit id => exact hq
    | goto l => exact hq
    | ret => exact hq
  | cond c x y ihx ihy =>
    intro hc ρ H Q h
    simp only [codeOk, Bool.and_eq_true] at hc
    exact SWp.cond (condC_mono h (ihx hc.1) (ihy hc.2))
  | block id c ih => intro hc ρ H Q h; exact SWp.block (ih hc h)
  | loop c ih => intro _ ρ H Q h; exact h
  | rangeFunc f ps a b => intro _ ρ H Q h; exact h
  | exit id => intro _ ρ H Q h; exact SWp.exit h
  | scope c ih => intro _ ρ H Q h; exact h
  | label l => intro _ ρ H Q h; exact SWp.label h
  | goto l => intro _ ρ H Q h; exact SWp.goto h
  | ret => intro _ ρ H Q h; exact SWp.ret h
  | refuse s => intro _ ρ H Q h; exact h.elim

/-- A statement whose ways all come together in one state. -/
theorem SWp.cut (hP : POk P tt) {a b : Code} {ρ : Env} {H : List Ob} {Q : Post} (ρ0 : Env) (H0 : List Ob) (hc : codeOk a = true) (first : step P tt n k a ρ H (seqK (fun ρ' H' => Le k ρ0 H0 ρ' H') Q)) (rest : SWp P n k b ρ0 H0 Q) : SWp P n k (.seq a b) ρ H Q := by
  refine SWp.seq (SWp.mono (SWp.go hP hc first) fun pe ρ' H' hq => ?_)
  cases pe with
  | normal => exact rest.weaken hq
  | exit id => exact hq
  | goto l => exact hq
  | ret => exact hq
/-- One statement. -/
theorem SWp.then (hP : POk P tt) {a b : Code} {ρ : Env} {H : List Ob} {Q : Post} (hc : codeOk a = true) (h : step P tt n k a ρ H (seqK (fun ρ' H' => SWp P n k b ρ' H' Q) Q)) : SWp P n k (.seq a b) ρ H Q := SWp.seq (SWp.go hP hc h)

/-! ### scopes -/
def jmpK (l : Nat) (J : Env → List Ob → Prop) (Q : Post) : Post := fun pe ρ H => match pe with
  | .goto l' => bif Nat.beq l' l then J ρ H else False
  | pe => Q pe ρ H
theorem stepR_scope {b : Frame} {a : Act} {kk : List Item} {cs : List Frame} {w : World} {c : Code} : Go.step P (lone (b.atR a (.code (.scope c) :: kk)) cs w) = .next (lone (b.atR a (.code c :: .inScope c :: kk)) cs w) :=
  step_lone_go (by simp [stepG, stepG.exec, Frame.atR])
theorem stepR_inScope {b : Frame} {a : Act} {kk : List Item} {cs : List Frame} {w : World} {c : Code} : Go.step P (lone (b.atR a (.inScope c :: kk)) cs w) = .next (lone (b.atR a kk) cs w) :=
  step_lone_go (by simp [stepG, stepG.exec, Frame.atR])
/-- A scope with jumps to one label, each ahead or made smaller by a measure. -/
theorem SWp.scope {α : Type} {c rest : Code} {ρ : Env} {H : List Ob} {Q : Post} (l : Nat) (hf : findLabel c l = some rest) (I : α → Prop) (st : α → Env × List Ob) (μ : α → Nat)
    (first : SWp P n k c ρ H (jmpK l (fun ρ' H' => ∃ y, I y ∧ Le k (st y).1 (st y).2 ρ' H') Q))
    (pass : ∀ x, I x → SWp P n k rest (st x).1 (st x).2 (jmpK l (fun ρ' H' => ∃ y, I y ∧ μ y < μ x ∧ Le k (st y).1 (st y).2 ρ' H') Q)) : SWp P n k (.scope c) ρ H Q := by
  intro G1 w1 φ1 H1 G w φ a Qc hk hr hg hQ b kk cs hro hb hrm
  have hgt : gotoIn l (.inScope c :: kk) = some (.code rest :: .inScope c :: kk) := by simp [gotoIn, hf]
  have key : ∀ (m : Nat) (a : Act) (w : World), (∃ x G φ, I x ∧ μ x = m ∧ Rep n G w φ (st x).1 (st x).2 a ∧ GoM G1 w1 φ1 H1 G w φ (hp (st x).2) a) →
      ∃ e a' w', Qc e a' w' ∧ ArrivesIn (Machine.fenced P (Fr k.r)) P (lone (b.atR a (.code rest :: .inScope c :: kk)) cs w) b kk cs e a' w' := by
    intro m
    induction m using Nat.strongRecOn with
    | _ m ih =>
      intro a w ⟨x, G, φ, hI, hm, hr, hg⟩
      have := pass x hI G1 w1 φ1 H1 G w φ a (Exit.jump l (fun a' w' => ∃ m', m' < m ∧ ∃ x G φ, I x ∧ μ x = m' ∧ Rep n G w' φ (st x).1 (st x).2 a' ∧ GoM G1 w1 φ1 H1 G w' φ (hp (st x).2) a') Qc) hk hr hg fun pe ρ' H' G' w' φ' a' hq hr' hg' => by
        cases pe with
        | normal => exact hQ .normal ρ' H' G' w' φ' a' hq hr' hg'
        | exit id => exact hQ (.exit id) ρ' H' G' w' φ' a' hq hr' hg'
        | goto l' =>
          simp only [jmpK] at hq
          cases hb : Nat.beq l' l with
          | false => rw [hb] at hq; exact hq.elim
          | true =>
            rw [hb] at hq
            obtain ⟨y, hy, hlt, hle'⟩ := hq
            obtain ⟨φ2, hr2, hg2⟩ := hr'.less hk hg' hle'
            exact ⟨Nat.eq_of_beq_eq_true hb, μ y, by omega, y, G', φ2, hy, rfl, hr2, hg2⟩
        | ret => exact hQ .ret ρ' H' G' w' φ' a' hq hr' hg'
      obtain ⟨e, a1, w2, hq, harr⟩ := this b (.inScope c :: kk) cs hro hb hrm
      cases e with
      | normal => exact ⟨.normal, a1, w2, hq, StepsIn.trans harr (.one (fenced_calm hb hrm rfl) stepR_inScope)⟩
      | exit id => exact ⟨.exit id, a1, w2, hq, fun k' hk => harr.1 k' (by simp [exitTo, hk]), fun hr' hk => harr.2 hr' (by simp [exitTo, hk])⟩
      | goto l' =>
        obtain ⟨rfl, m', hlt, hx⟩ := hq
        obtain ⟨e2, a2, w3, hq2, harr2⟩ := ih m' hlt a1 w2 hx
        exact ⟨e2, a2, w3, hq2, .of_steps (harr.1 _ hgt) harr2⟩
      | ret => exact ⟨_, a1, w2, hq, harr⟩
      | panic ch => exact ⟨_, a1, w2, hq, harr⟩
      | outgrown => exact ⟨_, a1, w2, hq, harr⟩
  have := first G1 w1 φ1 H1 G w φ a (Exit.jump l (fun a' w' => ∃ x G φ, I x ∧ Rep n G w' φ (st x).1 (st x).2 a' ∧ GoM G1 w1 φ1 H1 G w' φ (hp (st x).2) a') Qc) hk hr hg fun pe ρ' H' G' w' φ' a' hq hr' hg' => by
    cases pe with
    | normal => exact hQ .normal ρ' H' G' w' φ' a' hq hr' hg'
    | exit id => exact hQ (.exit id) ρ' H' G' w' φ' a' hq hr' hg'
    | goto l' =>
      simp only [jmpK] at hq
      cases hb : Nat.beq l' l with
      | false => rw [hb] at hq; exact hq.elim
      | true =>
        rw [hb] at hq
        obtain ⟨y, hy, hle'⟩ := hq
        obtain ⟨φ2, hr2, hg2⟩ := hr'.less hk hg' hle'
        exact ⟨Nat.eq_of_beq_eq_true hb, y, G', φ2, hy, hr2, hg2⟩
    | ret => exact hQ .ret ρ' H' G' w' φ' a' hq hr' hg'
  obtain ⟨e, a1, w2, hq, harr⟩ := this b (.inScope c :: kk) cs hro hb hrm
  cases e with
  | normal => exact ⟨.normal, a1, w2, hq, .head (fenced_calm hb hrm rfl) stepR_scope (StepsIn.trans harr (.one (fenced_calm hb hrm rfl) stepR_inScope))⟩
  | exit id => exact ⟨.exit id, a1, w2, hq, fun k' hk => .head (fenced_calm hb hrm rfl) stepR_scope (harr.1 k' (by simp [exitTo, hk])), fun hr' hk => let ⟨k1, h1, h2⟩ := harr.2 hr' (by simp [exitTo, hk]); ⟨k1, h1, .head (fenced_calm hb hrm rfl) stepR_scope h2⟩⟩
  | goto l' =>
    obtain ⟨rfl, x, G, φ, h1, h2, h3⟩ := hq
    obtain ⟨e2, a2, w3, hq2, harr2⟩ := key _ a1 w2 ⟨x, G, φ, h1, rfl, h2, h3⟩
    exact ⟨e2, a2, w3, hq2, .of_steps (.head (fenced_calm hb hrm rfl) stepR_scope (harr.1 _ hgt)) harr2⟩
  | ret => exact ⟨_, a1, w2, hq, .of_steps (.one (fenced_calm hb hrm rfl) stepR_scope) harr⟩
  | panic ch => exact ⟨_, a1, w2, hq, .of_steps (.one (fenced_calm hb hrm rfl) stepR_scope) harr⟩
  | outgrown => exact ⟨_, a1, w2, hq, .of_steps (.one (fenced_calm hb hrm rfl) stepR_scope) harr⟩
/-- A scope without jumps. -/
def noJ (Q : Post) : Post := fun pe ρ H => match pe with
  | .goto _ => False
  | pe => Q pe ρ H
theorem SWp.scope0 {c : Code} {ρ : Env} {H : List Ob} {Q : Post} (h : SWp P n k c ρ H (noJ Q)) : SWp P n k (.scope c) ρ H Q := by
  intro G1 w1 φ1 H1 G w φ a Qc hk hr hg hQ b kk cs hro hb hrm
  have := h G1 w1 φ1 H1 G w φ a (Exit.noGoto Qc) hk hr hg fun pe ρ' H' G' w' φ' a' hq hr' hg' => by
    cases pe with
    | normal => exact hQ _ ρ' H' G' w' φ' a' hq hr' hg'
    | exit id => exact hQ _ ρ' H' G' w' φ' a' hq hr' hg'
    | goto l => exact hq.elim
    | ret => exact hQ _ ρ' H' G' w' φ' a' hq hr' hg'
  obtain ⟨e, a1, w2, hq, harr⟩ := this b (.inScope c :: kk) cs hro hb hrm
  cases e with
  | normal => exact ⟨.normal, a1, w2, hq, .head (fenced_calm hb hrm rfl) stepR_scope (StepsIn.trans harr (.one (fenced_calm hb hrm rfl) stepR_inScope))⟩
  | exit id => exact ⟨.exit id, a1, w2, hq, fun k' hk => .head (fenced_calm hb hrm rfl) stepR_scope (harr.1 k' (by simp [exitTo, hk])), fun hr' hk => let ⟨k1, h1, h2⟩ := harr.2 hr' (by simp [exitTo, hk]); ⟨k1, h1, .head (fenced_calm hb hrm rfl) stepR_scope h2⟩⟩
  | goto l' => exact hq.elim
  | ret => exact ⟨_, a1, w2, hq, .of_steps (.one (fenced_calm hb hrm rfl) stepR_scope) harr⟩
  | panic ch => exact ⟨_, a1, w2, hq, .of_steps (.one (fenced_calm hb hrm rfl) stepR_scope) harr⟩
  | outgrown => exact ⟨_, a1, w2, hq, .of_steps (.one (fenced_calm hb hrm rfl) stepR_scope) harr⟩

/-! ### functions -/
def argEnv : Nat → List V → Env
  | _, [] => []
  | i, x :: xs => (i, x) :: argEnv (i + 1) xs
def resV (tt : TT) (ρ : Env) (H : List Ob) : ResultVar → Option V
  | .tmp t => lk ρ t
  | .cell a t => match lk ρ a, tt t with
    | some (.ptr id off), some e => match H[id]? with
      | some (.box cells) => match e.kind.agg with
        | true => bif Nat.ble (off + e.size) cells.length then some (.agg ((cells.drop off).take e.size)) else none
        | false => cells[off]?
      | _ => none
    | _, _ => none
def resVs (tt : TT) (ρ : Env) (H : List Ob) : List ResultVar → Option (List V)
  | [] => some []
  | r :: rs => match resV tt ρ H r with
    | some x => match resVs tt ρ H rs with
      | some xs => some (x :: xs)
      | none => none
    | none => none
def resAll : List V → V
  | [x] => x
  | xs => .tup xs
def keepIds (H : List Ob) (k : Nat) (r : V) : List Nat := List.range k ++ (reach H 1000 (List.range k ++ r.ids) []).filter fun i => Nat.ble k i
def finP (H : List Ob) (k : Nat) (r : V) (R : V → List Ob → Prop) : Prop :=
  match r.ren (pos (keepIds H k r)), obsAt H (pos (keepIds H k r)) (keepIds H k r) with
  | some r', some h' => condP (nodupB (keepIds H k r)) (R r' h')
  | _, _ => False
def fnPost (tt : TT) (rs : List ResultVar) (k : Nat) (R : V → List Ob → Prop) : Post := fun pe ρ H =>
  match pe with
  | .normal => match resVs tt ρ H rs with
    | some xs => finP H k (resAll xs).plain R
    | none => False
  | .ret => match resVs tt ρ H rs with
    | some xs => finP H k (resAll xs).plain R
    | none => False
  | _ => False
theorem argEnv_lk : ∀ (xs : List V) (i t : Nat), lk (argEnv i xs) t = if i ≤ t then xs[t - i]? else none
  | [], i, t => by simp [argEnv, lk]
  | x :: xs, i, t => by
    rw [argEnv, lk_put]
    by_cases h : i = t
    · subst h; simp
    · rw [if_neg h, argEnv_lk xs (i + 1) t]
      by_cases h2 : i ≤ t
      · rw [if_pos (by omega), if_pos h2, show t - i = (t - (i + 1)) + 1 by omega]; simp
      · rw [if_neg (by omega), if_neg h2]
def resF (tmps : Array Value) : ResultVar → Sem Value
  | .tmp t => pure (tmps.getD t undef)
  | .cell p t => do loadVar t (← asAddr (tmps.getD p undef))
theorem results_eq (fn : Func) (tmps : Array Value) : results fn tmps = (do
    let vs ← fn.results.mapM (resF tmps)
    pure (if h : vs.size = 1 then vs[0] else .tuple vs)) := by
  unfold results
  congr 1
theorem run_res (htt : TTok P tt) {G : Imm} {w : World} {φ : Loc} {ρ : Env} {H : List Ob} {a : Act} (hs : Sit G w φ (hp H)) (henv : EnvOk G φ ρ a) : ∀ {rs : List ResultVar} {xs : List V}, resVs tt ρ H rs = some xs →
    ∃ us : List Value, (rs.mapM (resF a.tmps)).run P w = .ok us w ∧ repVs G φ xs us
  | [], xs, h => by simp [resVs] at h; subst h; exact ⟨[], rfl, rfl⟩
  | r :: rs, xs, h => by
    unfold resVs at h
    split at h
    · rename_i x hx
      split at h
      · rename_i ys hys
        injection h with h; subst h
        obtain ⟨us, h1, h2⟩ := run_res htt hs henv hys
        have one : ∃ v, (resF a.tmps r).run P w = .ok v w ∧ x.rep G φ v := by
          cases r with
          | tmp t =>
            obtain ⟨v, v1, v2⟩ := henv t x hx
            exact ⟨v, by simp [resF, Array.getD_eq_getD_getElem?, v1], v2⟩
          | cell p t =>
            unfold resV at hx
            dsimp only at hx
            split at hx
            · rename_i id off e hp he
              split at hx
              · rename_i cells hH
                obtain ⟨v, v1, b, c, v2, v3⟩ := henv p _ hp
                obtain ⟨b', c', T, us', k1, k2, k3, k4, k5⟩ := hs.holds id _ hH
                rw [v2] at k1; injection k1 with k1; injection k1 with k1 k1'; injection k1 with k1; injection k1 with k1; subst k1
                have hl := repVs_len k3
                have hp' : a.tmps.getD p undef = .pointer (some ⟨b, off, none⟩) := by simp [Array.getD_eq_getD_getElem?, v1, v3]
                split at hx
                · rename_i hagg
                  cases hc : Nat.ble (off + e.size) cells.length with
                  | false => rw [hc] at hx; cases hx
                  | true =>
                    rw [hc] at hx
                    have hle := Nat.le_of_ble_eq_true hc
                    injection hx with hx; subst hx
                    refine ⟨.agg ((us'.drop off).take e.size).toArray, ?_, ⟨_, rfl, repVs_take (repVs_drop k3 _) _, fun u hu => k4 u (List.mem_of_mem_drop (List.mem_of_mem_take hu))⟩⟩
                    have := run_loadVar_many (P := P) w htt he hagg b off ((us'.drop off).take e.size) (by simp; omega) (fun j v hj => by
                      rw [cell_us w k2, ← List.getElem?_drop]
                      rw [List.getElem?_take] at hj
                      split at hj
                      · exact hj
                      · cases hj)
                    simp [resF, hp', asAddr, this]
                · rename_i hagg
                  obtain ⟨u, u1, u2⟩ := repVs_get k3 off x hx
                  refine ⟨u, ?_, u2⟩
                  have := run_loadVar_one (P := P) w htt he hagg b off (by rw [cell_us w k2, u1])
                  simp [resF, hp', asAddr, this]
              · cases hx
            · cases hx
        obtain ⟨v, v1, v2⟩ := one
        refine ⟨v :: us, ?_, ⟨v, us, rfl, v2, h2⟩⟩
        rw [List.mapM_cons, Sem.run_bind, v1]
        simp only [Result.andThen_ok, Sem.run_bind, h1, Sem.run_pure]
      · cases h
    · cases h
theorem putObj_heap (w : World) (D : Nat) (o : Obj) {k : Nat} (h : k ≠ D) : (w.putObj D o).heap[k]? = w.heap[k]? := World.putObj_heap_other h
theorem marks_leave {fn : Func} {tmps : Array Value} {R : Ending → World → Prop} {G0 : Imm} {w0 : World} {φ0 : Loc} {H0 : Hp} {G : Imm} {φ : Loc} {Hx : Hp}
    (k : ∀ w, Sit G w φ Hx → Goes G0 w0 φ0 H0 G w φ Hx → LeavesIn (Fr none) 0 P fn tmps R [] .returning w) :
    ∀ (ds : List Deferred) (w : World), Mk w0.heap.size w φ Hx ds → Sit G w φ Hx → Goes G0 w0 φ0 H0 G w φ Hx → LeavesInM (Fr none) 0 P fn tmps R ds .returning w
  | [], w, _, hs, hg => k w hs hg
  | d :: ds, w, ⟨⟨h0, D, h1, h2, h3, h4⟩, h5⟩, hs, hg => by
    subst h1
    have hne : ∀ b o v, G b o = some v → b ≠ D := fun b o v hb e => by
      subst e
      have := hs.inv b o v hb
      simp [World.cell?, h3] at this
    have hs1 : Sit G (w.putObj D (.deferred none)) φ Hx := by
      refine ⟨hs.inv.of (Imm.le.refl _) (fun b cs T fr hb h0 hG => putObj_heap w D _ fun e => by subst e; rw [h3] at hb; cases hb) fun b o v hb => ?_, fun i ob hi => (hs.holds i ob hi).keep (Imm.le.refl _) (Loc.le.refl _) (fun _ => rfl) (fun b hb => ⟨putObj_heap w D _ (fun e => h4 ⟨i, ob, hi, e ▸ hb⟩), fun _ => rfl⟩), hs.dist, hs.un⟩
      have h6 := hs.inv b o v hb
      unfold World.cell? at h6 ⊢
      rw [putObj_heap w D _ (hne b o v hb)]
      exact h6
    have hg1 : Goes G0 w0 φ0 H0 G (w.putObj D (.deferred none)) φ Hx :=
      ⟨hg.le, hg.ple, hg.os, hg.tape, hg.output, by rw [World.putObj_size]; exact hg.size, fun b hb hn => ⟨(putObj_heap w D _ (by omega)).trans (hg.block b hb hn).1, (hg.block b hb hn).2⟩, hg.owns⟩
    refine ⟨by simp, .inl ⟨D, _, rfl, run_takeDeferred h3, marks_leave k ds _ ?_ hs1 hg1⟩⟩
    have go : ∀ (l : List Deferred), { target := .collected D, args := #[] } ∉ l → Mk w0.heap.size w φ Hx l → Mk w0.heap.size (w.putObj D (.deferred none)) φ Hx l := by
      intro l
      induction l with
      | nil => intro _ _; trivial
      | cons e l ih =>
        rintro hn ⟨⟨a0, D', a1, a2, a3, a4⟩, a5⟩
        refine ⟨⟨a0, D', a1, a2, (putObj_heap w D _ (fun hh => hn ?_)).trans a3, a4⟩, ih (fun hh => hn (List.mem_cons_of_mem _ hh)) a5⟩
        subst hh; subst a1; exact List.mem_cons_self
    exact go ds h0 h5
theorem fn_sem (hP : POk P tt) {f : FuncId} {fn : Func} {c : Code} {args : List V} {h : List Ob} {R : V → List Ob → Prop} {rs : List ResultVar} (m kk : Nat) (hf : P.funcs[f]? = some fn) (hname : (fn.name == "runtime.NumGoroutine") = false) (hb : fn.body = some c) (hm : args.length + (fn.ntmps - args.length) = m) (hkk : h.length = kk) (hrs : fn.results.toList = rs)
    (hw : SWp P m ⟨kk, none⟩ c (argEnv 0 args) h (fnPost tt rs kk R)) : PCalls P f args h R := by
  subst hm
  subst hkk
  subst hrs
  refine ⟨⟨fn, hf, hname, by rw [hb]; rfl⟩, fun G w φ vs hs hr => ?_⟩
  have hvl := repVs_len hr
  refine (callsIn_wide (n := 0)).1 (callsIn_of_wp_marks (F := Fr none) hf hb trivial ?_ rfl)
  refine hw G w φ (hp h) G w φ _ _ (fun i hi m => hs.un i (List.getElem?_eq_none hi) m) ⟨hs, fun t x hx => ?_, by simp [hvl]⟩ ⟨Goes.refl _ _ _ _, trivial⟩ ?_
  · rw [argEnv_lk] at hx
    simp at hx
    obtain ⟨u, u1, u2⟩ := repVs_get hr t x hx
    refine ⟨u, ?_, u2⟩
    have hlt := lt_of_get u1
    show (vs.toArray ++ _)[t]? = some u
    rw [Array.getElem?_append_left (by simpa using hlt)]
    simpa using u1
  · intro pe ρ' H' G' w2 φ' a' hq hr2 hgm
    have fin : ∀ w', Sit G' w' φ' (hp H') → Goes G w φ (hp h) G' w' φ' (hp H') → (match resVs tt ρ' H' fn.results.toList with | some xs => finP H' h.length (resAll xs).plain R | none => False) → ∃ v, (results fn a'.tmps).run P w' = .ok v w' ∧ ∃ v1 r h' G1 φ1, Ending.returned v = .returned v1 ∧ R r h' ∧ h.length ≤ h'.length ∧ Sit G1 w' φ1 (hp h') ∧ Goes G w φ (hp h) G1 w' φ1 (hp h') ∧ r.rep G1 φ1 v1 := by
      intro w' hs' hg' hq
      split at hq
      · rename_i xs hxs
        obtain ⟨us, u1, u2⟩ := run_res (P := P) hP.tt hs' hr2.env hxs
        have hres : ∃ v, (results fn a'.tmps).run P w' = .ok v w' ∧ (resAll xs).rep G' φ' v := by
          refine ⟨if h : us.toArray.size = 1 then us.toArray[0] else .tuple us.toArray, ?_, ?_⟩
          · rw [results_eq, Array.mapM_eq_mapM_toList]
            simp only [Sem.run_bind, Sem.run_map, u1, Result.andThen_ok]
            rfl
          · have hl := repVs_len u2
            match xs, us, u2, hl with
            | [], [], u2, _ => exact ⟨[], rfl, rfl⟩
            | [x], [u], u2, _ =>
              obtain ⟨v, us', e, h1, h2⟩ := u2
              injection e with e1 e2; subst e1
              exact h1
            | x :: y :: zs, u :: v :: us', u2, _ => exact ⟨_, rfl, u2⟩
        obtain ⟨v, v1, v2⟩ := hres
        have v3 := V.plain_rep _ v v2
        unfold finP at hq
        split at hq
        · rename_i r' h' hr1 hh1
          obtain ⟨hnd, hR⟩ := condP_out hq
          have hnd := nodupB_spec hnd
          have hls := lent_sit (H := H') hs' hnd (fun i _ => rfl) hh1
          obtain ⟨hl, hget⟩ := obsAt_get hh1
          refine ⟨v, v1, v, r', h', G', lentLoc φ' (keepIds H' h.length (resAll xs).plain), rfl, hR, ?_, hls, ⟨hg'.le, fun i m z hz => ?_, hg'.os, hg'.tape, hg'.output, hg'.size, hg'.block, fun b hb => ?_⟩, V.ren_rep (lent_moves φ' _) _ _ _ hr1 v3⟩
          · rw [hl]; simp [keepIds]
          · have hi : i < h.length := by
              rcases Nat.lt_or_ge i h.length with h1 | h1
              · exact h1
              · rw [hs.un i (List.getElem?_eq_none h1) m] at hz; cases hz
            have e1 : (keepIds H' h.length (resAll xs).plain)[i]? = some i := by
              unfold keepIds
              rw [List.getElem?_append_left (by simpa using hi), List.getElem?_range hi]
            unfold lentLoc
            rw [e1]
            exact hg'.ple i m z hz
          · obtain ⟨i, ob, hi, ho⟩ := hb
            have hil := lt_of_get hi
            have e1 : (keepIds H' h.length (resAll xs).plain)[i]? = some (keepIds H' h.length (resAll xs).plain)[i] := List.getElem?_eq_getElem (by omega)
            obtain ⟨ob0, ob', g1, g2, g3⟩ := hget i _ e1
            have hi' : h'[i]? = some ob := hi
            rw [hi'] at g3; injection g3 with g3; subst g3
            refine hg'.owns b ⟨_, ob0, g1, ?_⟩
            rw [← Ob.ren_own (φ2 := lentLoc φ' (keepIds H' h.length (resAll xs).plain)) (i := i) (fun m => by unfold lentLoc; rw [e1]) g2]
            exact ho
        · exact hq.elim
      · exact hq.elim
    have out : (match resVs tt ρ' H' fn.results.toList with | some xs => finP H' h.length (resAll xs).plain R | none => False) → LeavesInM (Fr none) 0 P fn a'.tmps (fun e w' => ∃ v r h' G1 φ1, e = .returned v ∧ R r h' ∧ h.length ≤ h'.length ∧ Sit G1 w' φ1 (hp h') ∧ Goes G w φ (hp h) G1 w' φ1 (hp h') ∧ r.rep G1 φ1 v) a'.defers .returning w2 := fun hq =>
      marks_leave (fun w' hs' hg' => by rw [LeavesIn]; exact fin w' hs' hg' hq) a'.defers w2 hgm.mks hr2.sit hgm.go
    cases pe with
    | normal => exact out hq
    | exit id => exact hq.elim
    | goto l => exact hq.elim
    | ret => exact out hq
end
end Go.Proofs.YtmflfcbebeikcaaGreatDoor.Q

namespace Go.Proofs.YtmflfcbebeikcaaGreatDoor.Q
/-! ### what is lent is dead for the caller -/
def kill : List Ob → List Nat → List Ob
  | H, [] => H
  | H, i :: r => kill (H.set i .dead) r
theorem kill_len : ∀ (ids : List Nat) (H : List Ob), (kill H ids).length = H.length
  | [], H => rfl
  | i :: r, H => by rw [kill, kill_len r]; simp
theorem kill_get : ∀ (ids : List Nat) (H : List Ob) (i : Nat), (i ∈ ids → ∀ ob, (kill H ids)[i]? = some ob → ob = .dead) ∧ (i ∉ ids → (kill H ids)[i]? = H[i]?)
  | [], H, i => ⟨fun h => by simp at h, fun _ => rfl⟩
  | j :: r, H, i => by
    rw [kill]
    have ih := kill_get r (H.set j .dead) i
    refine ⟨fun h ob hob => ?_, fun h => ?_⟩
    · by_cases hr : i ∈ r
      · exact ih.1 hr ob hob
      · rw [ih.2 hr] at hob
        have : i = j := by simpa [hr] using h
        subst this
        rw [List.getElem?_set] at hob
        simp at hob
        exact hob.2.symm
    · simp at h
      rw [ih.2 h.2, List.getElem?_set, if_neg (fun e => h.1 e.symm)]
def noHist : List Ob → Bool
  | [] => true
  | ob :: r => match ob with | .hist _ => false | _ => noHist r
theorem noHist_get : ∀ {h : List Ob}, noHist h = true → ∀ (i : Nat) xs, h[i]? ≠ some (.hist xs)
  | [], _, i, xs, e => by simp at e
  | ob :: r, hn, i, xs, e => by
    unfold noHist at hn
    cases i with
    | zero => simp at e; subst e; simp at hn
    | succ i =>
      have : noHist r = true := by cases ob <;> first | exact hn | simp at hn
      exact noHist_get this i xs (by simpa using e)
theorem holds_any {A A' : Amb} {G : Imm} {w : World} {φ : Loc} {i : Nat} {ob : Ob} (hn : ∀ xs, ob ≠ .hist xs) (h : @Holds A G w φ i ob) : @Holds A' G w φ i ob := by
  cases ob with
  | hist xs => exact absurd rfl (hn xs)
  | _ => exact h
def PX.goes : PX → Bool
  | .normal => true
  | _ => false
def PX.code : PX → Option Code
  | .normal => none
  | .exit id => some (.exit id)
  | .goto l => some (.goto l)
  | .ret => some .ret
def roundEnv : List Tmp → List V → Env → Env
  | p :: ps, x :: xs, ρ => roundEnv ps xs ((p, x) :: ρ)
  | _, _, ρ => ρ
theorem roundEnv_ok [Amb] {G : Imm} {φ : Loc} : ∀ (ps : List Tmp) (xs : List V) (vs : List Value) (ρ : Env) (tm : Array Value), repVs G φ xs vs → (∀ p ∈ ps, p < tm.size) → EnvOk G φ ρ ⟨tm, []⟩ →
    EnvOk G φ (roundEnv ps xs ρ) ⟨(ps.zip vs).foldl (fun t (p, v) => t.setIfInBounds p v) tm, []⟩ ∧ ((ps.zip vs).foldl (fun t (p, v) => t.setIfInBounds p v) tm).size = tm.size
  | [], xs, vs, ρ, tm, _, _, he => by simp [roundEnv]; exact he
  | p :: ps, [], vs, ρ, tm, hr, _, he => by
    have : vs = [] := hr
    subst this
    simp [roundEnv]; exact he
  | p :: ps, x :: xs, vs, ρ, tm, hr, hp, he => by
    obtain ⟨u, us, rfl, h1, h2⟩ := hr
    have hpl := hp p List.mem_cons_self
    have := roundEnv_ok ps xs us ((p, x) :: ρ) (tm.setIfInBounds p u) h2 (fun q hq => by simpa using hp q (List.mem_cons_of_mem _ hq)) (fun t y hy => by
      rw [lk_put] at hy
      split at hy
      · rename_i e; subst e
        injection hy with hy; subst hy
        exact ⟨u, by simp [hpl], h1⟩
      · rename_i e
        obtain ⟨v, v1, v2⟩ := he t y hy
        refine ⟨v, ?_, v2⟩
        show (tm.setIfInBounds p u)[t]? = some v
        rw [Array.getElem?_setIfInBounds_ne e]; exact v1)
    refine ⟨?_, ?_⟩
    · simpa [roundEnv] using this.1
    · simpa using this.2

variable [Amb]
theorem Sit.putObj {G : Imm} {w : World} {φ : Loc} {H : Hp} (hs : Sit G w φ H) {D : Nat} {o o' : Obj} (h : w.heap[D]? = some o) (hc : ∀ k, w.cell? ⟨D, k, none⟩ = none) (hn : ¬ ownS φ H D) : Sit G (w.putObj D o') φ H := by
  have hne : ∀ b k v, G b k = some v → b ≠ D := fun b k v hb e => by
    subst e
    have := hs.inv b k v hb
    rw [hc] at this; cases this
  refine ⟨hs.inv.of (Imm.le.refl _) (fun b cs T fr hb h0 hG => putObj_heap w D _ (by obtain ⟨v, hv⟩ := Option.isSome_iff_exists.1 (hG 0 h0); exact hne b 0 v hv)) fun b k v hb => ?_, fun i ob hi => (hs.holds i ob hi).keep (Imm.le.refl _) (Loc.le.refl _) (fun _ => rfl) (fun b hb => ⟨putObj_heap w D _ (fun e => hn ⟨i, ob, hi, e ▸ hb⟩), fun _ => rfl⟩), hs.dist, hs.un⟩
  have h6 := hs.inv b k v hb
  unfold World.cell? at h6 ⊢
  rw [putObj_heap w D _ (hne b k v hb)]
  exact h6
theorem cell_loop {w : World} {D : Nat} {r : Loop} (h : w.heap[D]? = some (.loop r)) (k : Nat) : w.cell? ⟨D, k, none⟩ = none := by simp [World.cell?, h]
theorem Goes.putObj {G : Imm} {w : World} {φ : Loc} {H : Hp} {G' : Imm} {w' : World} {φ' : Loc} {H' : Hp} (hg : Goes G w φ H G' w' φ' H') {D : Nat} (o : Obj) (hD : D < w.heap.size) : Goes G (w.putObj D o) φ H G' (w'.putObj D o) φ' H' where
  le := hg.le
  ple := hg.ple
  os := hg.os
  tape := hg.tape
  output := hg.output
  size := by rw [World.putObj_size, World.putObj_size]; exact hg.size
  block := fun b hb hn => by
    rw [World.putObj_size] at hb
    refine ⟨?_, (hg.block b hb hn).2⟩
    by_cases e : b = D
    · subst e
      rw [World.putObj_heap_same hD, World.putObj_heap_same (Nat.lt_of_lt_of_le hD hg.size)]
    · rw [putObj_heap _ _ _ e, putObj_heap _ _ _ e]; exact (hg.block b hb hn).1
  owns := fun b hb => by rw [World.putObj_size]; exact hg.owns b hb
theorem Mk.putObj {base : Nat} {w : World} {φ : Loc} {H : Hp} {D : Nat} (o : Obj) (hD : D < base) : ∀ {ds : List Deferred}, Mk base w φ H ds → Mk base (w.putObj D o) φ H ds
  | [], _ => trivial
  | d :: ds, ⟨⟨h0, D', h1, h2, h3, h4⟩, h5⟩ => ⟨⟨h0, D', h1, h2, (putObj_heap w D _ (by omega)).trans h3, h4⟩, Mk.putObj o hD h5⟩

/-- The caller, while the function that it ranges over runs. -/
structure Wait (G0 : Imm) (w0 : World) (φ0 : Loc) (H0 : Hp) (rec : LoopState → Option Code → Loop) (pe : PX) (H : List Ob) (G : Imm) (W : World) (B : Nat → Prop) (φ : Loc) : Prop where
  le : G0.le G
  ple : φ0.le φ
  holds : ∀ i ob, hp H i = some ob → Holds G W φ i ob
  dist : ∀ i j ob ob' b, i ≠ j → hp H i = some ob → hp H j = some ob' → Owns φ i ob b → Owns φ j ob' b → False
  un : ∀ i, hp H i = none → ∀ n, φ i n = none
  own : ∀ b, ownS φ (hp H) b → B b
  bl : B (w0.heap.size + 1)
  bD : B w0.heap.size
  lt : ∀ b, B b → b < W.heap.size
  frm : ∀ b, B b → ownS φ0 H0 b ∨ w0.heap.size ≤ b
  noD : ¬ ownS φ (hp H) w0.heap.size
  noL : ¬ ownS φ (hp H) (w0.heap.size + 1)
  hl : W.heap[w0.heap.size + 1]? = some (.loop (rec (bif pe.goes then .ready else .done) pe.code))
  hD : W.heap[w0.heap.size]? = some (.deferred (some []))
theorem Wait.stable {G0 : Imm} {w0 : World} {φ0 : Loc} {H0 : Hp} {rec : LoopState → Option Code → Loop} {pe : PX} {H : List Ob} {G G' : Imm} {W W' : World} {B : Nat → Prop} {φ : Loc}
    (h : Wait G0 w0 φ0 H0 rec pe H G W B φ) (hle : G.le G') (hb : ∀ b, B b → W'.heap[b]? = W.heap[b]? ∧ ∀ o, G' b o = G b o) : Wait G0 w0 φ0 H0 rec pe H G' W' B φ where
  le := h.le.trans hle
  ple := h.ple
  holds := fun i ob hi => (h.holds i ob hi).keep hle (Loc.le.refl _) (fun _ => rfl) fun b hbo => hb b (h.own b ⟨i, ob, hi, hbo⟩)
  dist := h.dist
  un := h.un
  own := h.own
  bl := h.bl
  bD := h.bD
  lt := fun b hB => by
    have h1 := h.lt b hB
    have h2 := (hb b hB).1
    rw [Array.getElem?_eq_getElem h1] at h2
    exact (Array.getElem?_eq_some_iff.1 h2).1
  frm := h.frm
  noD := h.noD
  noL := h.noL
  hl := (hb _ h.bl).1.trans h.hl
  hD := (hb _ h.bD).1.trans h.hD
section
variable {P : Program} {tt : TT} {n N : Nat} {ρ : Env} {H : List Ob} {Q : Post} {ps : Array Tmp} {assign body : Code} {fin : List (List V) → PX} {st : List (List V) → List Ob}
theorem roundPost_of {l : Nat} {R : Ending → World → Prop} (pe : PX) {a : Act} {w : World} (h : ∃ v w', (Instr.endRound l pe.code).run P w = .ok v w' ∧ R (.returned v) w') : roundPost P l R pe.to a w := by
  cases pe <;> exact h
/-- What a round must come to. -/
def roundQ (N l : Nat) (fin : List (List V) → PX) (st : List (List V) → List Ob) (xs : List (List V)) : Post := fun pe ρ H => fin xs = pe ∧ Le ⟨N, some l⟩ [] (st xs) ρ H
def noX : Post := fun _ _ _ => False
theorem wait_round {fn : FuncId} {tm : Array Value} {G0 : Imm} {w0 : World} {φ0 : Loc} {H0 : Hp} {rec : LoopState → Option Code → Loop} {G : Imm} {W : World} {B : Nat → Prop} {φ : Loc} {xs : List (List V)} {x : List V} {vs : List Value}
    (hst : ∀ xs, (st xs).length = N) (hps : ∀ p ∈ ps.toList, p < n) (htm : tm.size = n)
    (round : SWp P n ⟨N, some (w0.heap.size + 1)⟩ assign (roundEnv ps.toList x ρ) (st xs) (seqK (fun ρ1 H1 => SWp P n ⟨N, some (w0.heap.size + 1)⟩ body ρ1 H1 (roundQ N (w0.heap.size + 1) fin st (xs ++ [x]))) noX))
    (hlen : x.length = ps.size) (hgo : fin xs = .normal)
    (hw : Wait G0 w0 φ0 H0 rec (fin xs) (st xs) G W B φ) (hinv : Inv G W) (henv : EnvOk G0 φ0 ρ ⟨tm, []⟩) (hv : ∀ φ, repVs G φ x vs)
    (hrec : rec = fun st pe => { state := st, pending := pe, fn, tmps := tm, params := ps, assign, body, defers := w0.heap.size }) :
    ∃ f tmps as bd, (Instr.yield (w0.heap.size + 1) vs.toArray).run P W = .ok (.round (w0.heap.size + 1) f tmps as bd) W ∧ RoundIn Fence.wide 0 P (w0.heap.size + 1) f tmps as bd W fun e w' => ∃ (G' : Imm) (B' : Nat → Prop), e = .returned (.bool (fin (xs ++ [x])).goes) ∧ (∃ φ', Wait G0 w0 φ0 H0 rec (fin (xs ++ [x])) (st (xs ++ [x])) G' w' B' φ') ∧ Inv G' w' ∧ G.le G' ∧
      (w'.os = W.os ∧ w'.tape = W.tape ∧ w'.output = W.output ∧ W.heap.size ≤ w'.heap.size) ∧ (∀ b, B b → B' b) ∧ (∀ b, B' b → B b ∨ W.heap.size ≤ b) ∧ ∀ b, b < W.heap.size → ¬ B b → w'.heap[b]? = W.heap[b]? ∧ ∀ o, G' b o = G b o := by
  have hl0 := hw.hl
  rw [hgo] at hl0
  have hvl := repVs_len (hv φ)
  have hy := run_yield (P := P) (args := vs.toArray) hl0 (by rw [hrec]; simp; omega)
  rw [hrec] at hy
  refine ⟨_, _, _, _, hy, roundIn_of_wpIn trivial ?_⟩
  have hlW := hw.lt _ hw.bl
  have hDW := hw.lt _ hw.bD
  have hsit : Sit G W φ (hp (st xs)) := ⟨hinv, hw.holds, hw.dist, hw.un⟩
  have h0 : ∀ i, N ≤ i → ∀ m, φ i m = none := fun i hi m => hw.un i (List.getElem?_eq_none (by rw [hst]; exact hi)) m
  have henv2 : EnvOk G φ ρ ⟨tm, []⟩ := henv.mono hw.le hw.ple
  obtain ⟨he3, hs3⟩ := roundEnv_ok ps.toList x vs ρ tm (hv φ) (fun p hp => by rw [htm]; exact hps p hp) henv2
  have ea : (ps.zip vs.toArray).foldl (fun tmps (x : Tmp × Value) => match x with | (t, a) => tmps.setIfInBounds t a) tm = (ps.toList.zip vs).foldl (fun t (p, v) => t.setIfInBounds p v) tm := by
    rw [← Array.foldl_toList, Array.toList_zip]
  rw [ea]
  refine round G W φ (hp (st xs)) G W φ _ _ h0 ⟨hsit, he3, hs3.trans htm⟩ ⟨Goes.refl _ _ _ _, trivial⟩ ?_
  intro pe ρ1 H1 G1 w1 φ1 a1 hq hr1 hg1
  cases pe with
  | exit id => exact hq.elim
  | goto l => exact hq.elim
  | ret => exact hq.elim
  | normal =>
    have hl1 := (hg1.go.block _ hlW hw.noL).1.trans hl0
    refine ⟨_, run_beginRound hl1 (by rw [hrec]; rfl), ?_⟩
    have hbusy : ({ rec (bif PX.normal.goes then .ready else .done) PX.normal.code with state := .busy } : Loop) = rec .busy none := by rw [hrec]; rfl
    rw [hbusy]
    refine hq G (W.putObj (w0.heap.size + 1) (.loop (rec .busy none))) φ (hp (st xs)) G1 _ φ1 a1 _ h0 ⟨hr1.sit.putObj hl1 (cell_loop hl1) (fun ho => ?_), hr1.env, hr1.size⟩ ⟨hg1.go.putObj _ hlW, ?_⟩ ?_
    · rcases hg1.go.owns _ ho with h | h
      · exact hw.noL h
      · omega
    · rw [World.putObj_size]; exact hg1.mks.putObj _ hlW
    · intro pe ρ3 H3 G3 w3 φ3 a3 hfl hr3 hg3
      obtain ⟨hfin, hle⟩ := hfl
      obtain ⟨φ4, hr4, hg4⟩ := hr3.less h0 hg3 hle
      have hl3 := (hg4.go.block _ (by rw [World.putObj_size]; exact hlW) hw.noL).1.trans (World.putObj_heap_same hlW)
      have hsz := hg4.go.size
      rw [World.putObj_size] at hsz
      have hnL : ¬ ownS φ4 (hp (st (xs ++ [x]))) (w0.heap.size + 1) := fun ho => by
        rcases hg4.go.owns _ ho with h | h
        · exact hw.noL h
        · rw [World.putObj_size] at h; omega
      have hst4 := hr4.sit.putObj (o' := .loop (rec (if pe.code.isNone then .ready else .done) pe.code)) hl3 (cell_loop hl3) hnL
      have hend := run_endRound (P := P) pe.code hl3
      have hrd : ({ rec .busy none with state := if pe.code.isNone then .ready else .done, pending := pe.code } : Loop) = rec (if pe.code.isNone then .ready else .done) pe.code := by rw [hrec]
      rw [hrd] at hend
      refine roundPost_of pe ⟨_, _, hend, G3, fun b => B b ∨ ownS φ4 (hp (st (xs ++ [x]))) b, ?_, ⟨φ4, ?_⟩, hst4.inv, hg4.go.le, ⟨hg4.go.os, hg4.go.tape, hg4.go.output, ?_⟩, fun b hb => .inl hb, fun b hb => ?_, fun b hb hn => ?_⟩
      · rw [hfin]; cases pe <;> rfl
      · exact {
          le := hw.le.trans hg4.go.le
          ple := hw.ple.trans hg4.go.ple
          holds := hst4.holds
          dist := hst4.dist
          un := hst4.un
          own := fun b hb => .inr hb
          bl := .inl hw.bl
          bD := .inl hw.bD
          lt := fun b hb => by
            rw [World.putObj_size]
            rcases hb with hb | ⟨i, ob, hi, ho⟩
            · exact Nat.lt_of_lt_of_le (hw.lt b hb) hsz
            · exact own_lt (hr4.sit.holds i ob hi) ho
          frm := fun b hb => by
            rcases hb with hb | hb
            · exact hw.frm b hb
            · rcases hg4.go.owns b hb with h | h
              · exact hw.frm b (hw.own b h)
              · rw [World.putObj_size] at h; right; omega
          noD := fun ho => by
            rcases hg4.go.owns _ ho with h | h
            · exact hw.noD h
            · rw [World.putObj_size] at h; omega
          noL := hnL
          hl := by
            rw [World.putObj_heap_same (Nat.lt_of_lt_of_le hlW hsz), hfin]
            cases pe <;> rfl
          hD := by
            rw [putObj_heap _ _ _ (by omega)]
            refine (hg4.go.block _ (by rw [World.putObj_size]; exact hDW) hw.noD).1.trans ?_
            rw [putObj_heap _ _ _ (by omega)]
            exact hw.hD }
      · rw [World.putObj_size]; exact hsz
      · rcases hb with hb | hb
        · exact .inl hb
        · rcases hg4.go.owns b hb with h | h
          · exact .inl (hw.own b h)
          · rw [World.putObj_size] at h; exact .inr h
      · have hne : b ≠ w0.heap.size + 1 := fun e => hn (e ▸ hw.bl)
        have h1 := hg4.go.block b (by rw [World.putObj_size]; exact hb) (fun ho => hn (hw.own b ho))
        rw [putObj_heap _ _ _ hne] at h1 ⊢
        exact h1
theorem pending_of {pe : PX} {F : Fence} {m : Nat} {Qc : Exit → Act → World → Prop} {a : Act} {w : World} (h : Qc pe.to a w) : (match pe.code with | none => Qc .normal a w | some c => c.wpIn F m P Qc a w) := by
  cases pe with
  | normal => exact h
  | exit id => exact wpIn_exit h
  | goto l => exact wpIn_goto h
  | ret => exact wpIn_ret h
theorem alloc_lt (w : World) (o : Obj) {b : Nat} (h : b < w.heap.size) : (w.alloc o).heap[b]? = w.heap[b]? := by
  show (w.heap.push o)[b]? = _
  rw [Array.getElem?_push, if_neg (by omega)]
/-- What is asked of the function that is ranged over, whatever the surroundings. -/
def callRange (S : List (Nat × List Value)) (go : List (List V) → Bool) (ok : Program → List (List V) → Prop) (C : Amb → Prop) : Prop := ∀ A' : Amb, @Amb.tabs A' = S → @Amb.go A' = go → @Amb.ok A' = ok → C A'
/-- A range over a function: fin tells how the last round ends, st what the caller's objects are, okA what may be yielded, Z what has been yielded in the end. -/
theorem SWp.range {kk : Nat} {g : Operand} (f : FuncId) (cap : List V) (hg : ev ρ g = some (.fn (.func f) [] cap)) (hN : H.length = N)
    (hps : ∀ p ∈ ps.toList, p < n) (fin : List (List V) → PX) (h0 : fin [] = .normal) (okA : List (List V) → Prop) (hlen : ∀ xs x, okA (xs ++ [x]) → x.length = ps.size)
    (st : List (List V) → List Ob) (hst : ∀ xs, (st xs).length = N) (Z : List (List V) → Prop)
    (round : ∀ l xs x, okA (xs ++ [x]) → fin xs = .normal → SWp P n ⟨N, some l⟩ assign (roundEnv ps.toList x ρ) (st xs) (seqK (fun ρ1 H1 => SWp P n ⟨N, some l⟩ body ρ1 H1 (roundQ N l fin st (xs ++ [x]))) noX))
    (call : lendE H (plains cap) fun ids ys h => st [] = kill H ids ∧ noHist h = true ∧ callRange Amb.tabs (fun xs => (fin xs).goes) (fun P' xs => P' = P ∧ okA xs) fun A' =>
      @PCalls A' P f (.yld h.length :: ys) (h ++ [.hist []]) fun _ h' => ∃ xs obs, h' = obs ++ [.hist xs] ∧ obs.length = h.length ∧ Z xs)
    (after : ∀ xs, Z xs → Q (fin xs) ρ (st xs)) : SWp P n ⟨kk, none⟩ (.rangeFunc g ps assign body) ρ H Q := by
  intro G0 w0 φ0 H0 G w φ a Qc hk hr hgm hQ
  refine wpIn_rangeFunc ?_
  intro fn _
  obtain ⟨ids, ys, h, l1, l2, l3, hkill, hno, call⟩ := lendE_out call
  obtain ⟨rec, hrec⟩ : ∃ rec : LoopState → Option Code → Loop, rec = fun st pe => { state := st, pending := pe, fn, tmps := a.tmps, params := ps, assign, body, defers := w.heap.size } := ⟨_, rfl⟩
  obtain ⟨w1, hw1⟩ : ∃ w1, (w.alloc (.deferred (some []))).alloc (.loop (rec .ready none)) = w1 := ⟨_, rfl⟩
  have hsz1 : w1.heap.size = w.heap.size + 2 := by rw [← hw1]; simp
  have hlow : ∀ b, b < w.heap.size → w1.heap[b]? = w.heap[b]? := fun b hb => by
    rw [← hw1, alloc_lt _ _ (by simp; omega), alloc_lt _ _ hb]
  have hl1 : w1.heap[w.heap.size + 1]? = some (.loop (rec .ready none)) := by
    rw [← hw1]; have := World.alloc_heap_new (w.alloc (.deferred (some []))) (.loop (rec .ready none)); rwa [World.size_alloc] at this
  have hD1 : w1.heap[w.heap.size]? = some (.deferred (some [])) := by
    rw [← hw1, alloc_lt _ _ (by simp)]; exact World.alloc_heap_new w _
  have hworld : w1.os = w.os ∧ w1.tape = w.tape ∧ w1.output = w.output := by rw [← hw1]; exact ⟨rfl, rfl, rfl⟩
  have hinv1 : Inv G w1 := hr.sit.inv.of (Imm.le.refl _) (fun b cs T fr hb _ _ => hlow b (Array.getElem?_eq_some_iff.1 hb).1) fun b o v hb => by
    have h1 := hr.sit.inv b o v hb
    have hlt : b < w.heap.size := by
      rcases Nat.lt_or_ge b w.heap.size with h2 | h2
      · exact h2
      · simp [World.cell?, Array.getElem?_eq_none h2] at h1
    unfold World.cell? at h1 ⊢
    rw [hlow b hlt]; exact h1
  obtain ⟨o1, o2⟩ := obsAt_get l2
  have hls := lent_sit (H := H) hr.sit l3 (fun i _ => rfl) l2
  -- whose block a lent object's is
  have lentOwn : ∀ i ob b, (hp h) i = some ob → Owns (lentLoc φ ids) i ob b → ∃ j ob', j ∈ ids ∧ H[j]? = some ob' ∧ Owns φ j ob' b := fun i ob b hi ho => by
    have hil : i < ids.length := by rw [← o1]; exact lt_of_get hi
    have e1 : ids[i]? = some ids[i] := List.getElem?_eq_getElem hil
    obtain ⟨ob0, ob', g1, g2, g3⟩ := o2 i _ e1
    have hi' : h[i]? = some ob := hi
    rw [hi'] at g3; injection g3 with g3; subst g3
    refine ⟨_, ob0, List.getElem_mem hil, g1, ?_⟩
    rw [← Ob.ren_own (φ2 := lentLoc φ ids) (i := i) (fun m => by unfold lentLoc; rw [e1]) g2]
    exact ho
  have killOwn : ∀ i ob b, hp (st []) i = some ob → Owns φ i ob b → i ∉ ids ∧ H[i]? = some ob := fun i ob b hi ho => by
    rw [hkill] at hi
    have hi' : (kill H ids)[i]? = some ob := hi
    by_cases hm : i ∈ ids
    · rw [(kill_get ids H i).1 hm ob hi'] at ho; simp [Owns, own] at ho
    · rw [(kill_get ids H i).2 hm] at hi'; exact ⟨hm, hi'⟩
  have ownLt : ∀ b, ownS φ (hp H) b → b < w.heap.size := fun b ⟨i, ob, hi, ho⟩ => own_lt (hr.sit.holds i ob hi) ho
  have killS : ∀ b, ownS φ (hp (st [])) b → ownS φ (hp H) b := fun b ⟨i, ob, hi, ho⟩ => ⟨i, ob, (killOwn i ob b hi ho).2, ho⟩
  let B0 : Nat → Prop := fun b => ownS φ (hp (st [])) b ∨ b = w.heap.size + 1 ∨ b = w.heap.size
  have wait0 : Wait G w φ (hp H) rec (fin []) (st []) G w1 B0 φ := {
    le := Imm.le.refl _
    ple := Loc.le.refl _
    holds := fun i ob hi => by
      rw [hkill] at hi
      have hi' : (kill H ids)[i]? = some ob := hi
      by_cases hm : i ∈ ids
      · rw [(kill_get ids H i).1 hm ob hi']; trivial
      · rw [(kill_get ids H i).2 hm] at hi'
        exact (hr.sit.holds i ob hi').keep (Imm.le.refl _) (Loc.le.refl _) (fun _ => rfl) fun b hb => ⟨hlow b (ownLt b ⟨i, ob, hi', hb⟩), fun _ => rfl⟩
    dist := fun i j ob ob' b hij h1 h2 k1 k2 => hr.sit.dist i j ob ob' b hij (killOwn i ob b h1 k1).2 (killOwn j ob' b h2 k2).2 k1 k2
    un := fun i hi m => hr.sit.un i (by
      have hi' : (st [])[i]? = none := hi
      rw [hkill] at hi'
      have := List.getElem?_eq_none_iff.1 hi'
      rw [kill_len] at this
      exact List.getElem?_eq_none this) m
    own := fun b hb => .inl hb
    bl := .inr (.inl rfl)
    bD := .inr (.inr rfl)
    lt := fun b hb => by
      rcases hb with hb | hb | hb
      · have := ownLt b (killS b hb); omega
      · omega
      · omega
    frm := fun b hb => by
      rcases hb with hb | hb | hb
      · exact .inl (killS b hb)
      · right; omega
      · right; omega
    noD := fun ho => by have := ownLt _ (killS _ ho); omega
    noL := fun ho => by have := ownLt _ (killS _ ho); omega
    hl := by rw [h0]; exact hl1
    hD := hD1 }
  let A' : PLift Amb := ⟨{
    tabs := Amb.tabs
    l := w.heap.size + 1
    J := fun xs G' W B => ∃ φc, Wait G w φ (hp H) rec (fin xs) (st xs) G' W B φc
    ok := fun P' xs => P' = P ∧ okA xs
    go := fun xs => (fin xs).goes
    lt := fun ⟨φc, hw⟩ => hw.lt
    stable := fun ⟨φc, hw⟩ hle hb => ⟨φc, hw.stable hle hb⟩
    yield := by
      rintro P' xs x G' W B vs ⟨rfl, hok⟩ hgo ⟨φc, hw⟩ hinv hv
      refine wait_round hst hps hr.size (round _ xs x hok ?_) (hlen xs x hok) ?_ hw hinv hr.env hv hrec <;>
      · rcases Nat.eq_zero_or_pos xs.length with h1 | h1
        · rw [List.eq_nil_of_length_eq_zero h1]; exact h0
        · have := hgo xs.length h1 (Nat.le_refl _)
          rw [List.take_length] at this
          revert this
          cases fin xs <;> simp [PX.goes] }⟩
  have hcall := call A'.down rfl rfl rfl
  obtain ⟨⟨fd, f1, f2, f3⟩, hcall⟩ := hcall
  obtain ⟨us, vs, e1, e2, e3⟩ := ev_rep hr.env hg
  have e2 : us = [] := e2
  subst e2
  have hys : repVs G (lentLoc φ ids) ys vs := rens_rep (lent_moves φ ids) _ _ _ l1 (plains_rep _ _ e3)
  have hp0 : Classical.propDecidable = Classical.propDecidable := rfl
  let φ1 : Loc := fun i m => if i = h.length then (match m with | 0 => some (some (w.heap.size + 1, 0), 0) | b + 1 => @ite _ (B0 b) (Classical.propDecidable _) (some (none, 0)) none) else lentLoc φ ids i m
  have φ1ne : ∀ i, i ≠ h.length → ∀ m, φ1 i m = lentLoc φ ids i m := fun i hi m => by simp only [φ1, if_neg hi]
  have φ10 : φ1 h.length 0 = some (some (w.heap.size + 1, 0), 0) := by simp [φ1]
  have φ1B : ∀ b, (φ1 h.length (b + 1)).isSome = true ↔ B0 b := fun b => by
    simp only [φ1, if_pos]
    by_cases hb : B0 b
    · simp [hb]
    · simp [hb]
  have φ1F : (fun b => (φ1 h.length (b + 1)).isSome = true) = B0 := by funext b; exact propext (φ1B b)
  have lle : (lentLoc φ ids).le φ1 := fun i m z hz => by
    by_cases e : i = h.length
    · subst e
      unfold lentLoc at hz
      rw [List.getElem?_eq_none (by omega)] at hz; cases hz
    · rw [φ1ne i e]; exact hz
  have get1 : ∀ i ob, hp (h ++ [.hist []]) i = some ob → (i < h.length ∧ hp h i = some ob) ∨ (i = h.length ∧ ob = .hist []) := fun i ob hi => by
    have hi' : (h ++ [Ob.hist []])[i]? = some ob := hi
    rcases Nat.lt_trichotomy i h.length with h1 | h1 | h1
    · rw [List.getElem?_append_left h1] at hi'; exact .inl ⟨h1, hi'⟩
    · subst h1
      rw [List.getElem?_append_right (Nat.le_refl _)] at hi'
      simp at hi'; exact .inr ⟨rfl, hi'.symm⟩
    · rw [List.getElem?_eq_none (by simp; omega)] at hi'; cases hi'
  have own1 : ∀ i ob b, hp (h ++ [.hist []]) i = some ob → Owns φ1 i ob b → (∃ j ob', i < h.length ∧ j ∈ ids ∧ H[j]? = some ob' ∧ Owns φ j ob' b) ∨ (i = h.length ∧ B0 b) := fun i ob b hi ho => by
    rcases get1 i ob hi with ⟨h1, h2⟩ | ⟨h1, h2⟩
    · rw [own_le (φ1ne i (by omega))] at ho
      obtain ⟨j, ob', j1, j2, j3⟩ := lentOwn i ob b h2 ho
      exact .inl ⟨j, ob', h1, j1, j2, j3⟩
    · subst h1; subst h2
      exact .inr ⟨rfl, (φ1B b).1 ho⟩
  have clash : ∀ j ob' b, j ∈ ids → H[j]? = some ob' → Owns φ j ob' b → B0 b → False := fun j ob' b j1 j2 j3 hb => by
    have hlt := ownLt b ⟨j, ob', j2, j3⟩
    rcases hb with ⟨i, ob, hi, ho⟩ | hb | hb
    · obtain ⟨k1, k2⟩ := killOwn i ob b hi ho
      exact hr.sit.dist i j ob ob' b (fun e => k1 (e ▸ j1)) k2 j2 ho j3
    · omega
    · omega
  have hsit1 : @Sit A'.down G w1 φ1 (hp (h ++ [.hist []])) := by
    refine @Sit.mk A'.down _ _ _ _ hinv1 (fun i ob hi => ?_) (fun i j ob ob' b hij h1 h2 k1 k2 => ?_) (fun i hi m => ?_)
    · rcases get1 i ob hi with ⟨h1, h2⟩ | ⟨h1, h2⟩
      · refine holds_any (A := ‹Amb›) (fun xs e => noHist_get hno i xs (e ▸ h2)) ?_
        exact (hls.holds i ob h2).keep (Imm.le.refl _) lle (φ1ne i (by omega)) fun b hb => ⟨hlow b (own_lt (hls.holds i ob h2) hb), fun _ => rfl⟩
      · subst h1; subst h2
        refine ⟨⟨0, φ10⟩, φ, ?_⟩
        rw [φ1F]; exact wait0
    · rcases own1 i ob b h1 k1 with ⟨j1, ob1, a1, a2, a3, a4⟩ | ⟨a1, a2⟩
      · rcases own1 j ob' b h2 k2 with ⟨j2, ob2, b1, b2, b3, b4⟩ | ⟨b1, b2⟩
        · rcases get1 i ob h1 with ⟨c1, c2⟩ | ⟨c1, c2⟩
          · rcases get1 j ob' h2 with ⟨d1, d2⟩ | ⟨d1, d2⟩
            · rw [own_le (φ1ne i (by omega))] at k1
              rw [own_le (φ1ne j (by omega))] at k2
              exact hls.dist i j ob ob' b hij c2 d2 k1 k2
            · omega
          · omega
        · exact clash j1 ob1 b a2 a3 a4 b2
      · rcases own1 j ob' b h2 k2 with ⟨j2, ob2, b1, b2, b3, b4⟩ | ⟨b1, b2⟩
        · exact clash j2 ob2 b b2 b3 b4 a2
        · omega
    · have hi' : (h ++ [Ob.hist []])[i]? = none := hi
      have := List.getElem?_eq_none_iff.1 hi'
      simp at this
      rw [φ1ne i (by omega)]
      unfold lentLoc
      rw [List.getElem?_eq_none (by omega)]
  refine ⟨w.heap.size + 1, [{ target := .collected w.heap.size, args := #[] }], w1, { target := .fn (.func f) vs.toArray, args := #[.func (.yield (w.heap.size + 1)) #[] #[]] }, w1, f,
    #[.func (.yield (w.heap.size + 1)) #[] #[]] ++ vs.toArray, w1, ?_, ?_, fun _ _ => trivial, ?_, fun hh => by simp [Fr, Fence.wide] at hh, ?_⟩
  · rw [← hw1, hrec]; exact run_enterLoop_outer _ _ _ _ _
  · simp only [resolve, e1]
    simp [go_sem]
  · simp only [Sem.run_bind, invoke, callFunc, run_program, f1, f2, f3, Bool.false_eq_true, if_false, Result.andThen_ok]
    rfl
  · have hargs : #[Value.func (.yield (w.heap.size + 1)) #[] #[]] ++ vs.toArray = (Value.func (.yield (w.heap.size + 1)) #[] #[] :: vs).toArray := by simp
    rw [hargs]
    refine (callsIn_wide (n := 0)).2 ((hcall G w1 φ1 _ hsit1 ⟨_, _, rfl, ⟨_, _, φ10, rfl⟩, repVs_mono (Imm.le.refl _) lle _ _ hys⟩).mono ?_)
    rintro e w' ⟨v, r, h', G', φ', rfl, ⟨xs, obs, rfl, hol, hZ⟩, hlen', hs', hg', _⟩
    obtain ⟨_, φc, W⟩ := @Sit.holds A'.down _ _ _ _ hs' h.length (.hist xs) (by show (obs ++ [Ob.hist xs])[h.length]? = _; rw [List.getElem?_append_right (by omega), hol]; simp)
    have hst3 : Sit G' w' φc (hp (st xs)) := ⟨@Sit.inv A'.down _ _ _ _ hs', W.holds, W.dist, W.un⟩
    have hpen : (rec (bif (fin xs).goes then .ready else .done) (fin xs).code).pending = (fin xs).code := by rw [hrec]
    obtain ⟨o4, hend⟩ : ∃ o4, (Instr.endLoop (w.heap.size + 1)).run P w' = .ok (fin xs).code (w'.putObj (w.heap.size + 1) o4) :=
      ⟨_, (run_endLoop (P := P) W.hl (by rw [hrec]; cases fin xs <;> simp [PX.goes])).trans (by rw [hpen])⟩
    have hszs := hg'.size
    have hgo : Goes G w φ (hp H) G' w' φc (hp (st xs)) := {
      le := W.le
      ple := W.ple
      os := hg'.os.trans hworld.1
      tape := hg'.tape.trans hworld.2.1
      output := hg'.output.trans hworld.2.2
      size := by omega
      block := fun b hb hn => by
        have h1 := hg'.block b (by omega) (fun ⟨i, ob, hi, ho⟩ => by
          rcases own1 i ob b hi ho with ⟨j, ob', _, _, j2, j3⟩ | ⟨_, hB | hB | hB⟩
          · exact hn ⟨j, ob', j2, j3⟩
          · exact hn (killS b hB)
          · omega
          · omega)
        exact ⟨h1.1.trans (hlow b hb), h1.2⟩
      owns := fun b hb => W.frm b (W.own b hb) }
    have hlt' : w.heap.size + 1 < w'.heap.size := by omega
    have hgo4 : Goes G w φ (hp H) G' (w'.putObj (w.heap.size + 1) o4) φc (hp (st xs)) :=
      ⟨hgo.le, hgo.ple, hgo.os, hgo.tape, hgo.output, by rw [World.putObj_size]; exact hgo.size, fun b hb hn => ⟨(putObj_heap _ _ _ (by omega)).trans (hgo.block b hb hn).1, (hgo.block b hb hn).2⟩, hgo.owns⟩
    have hmk := (hgm.mks.goes hgo4)
    refine ⟨_, _, hend, pending_of (hQ (fin xs) ρ (st xs) G' _ φc _ (after xs hZ) ⟨hst3.putObj W.hl (cell_loop W.hl) W.noL, fun t x hx => (hr.env.mono W.le W.ple) t x hx, hr.size⟩ ⟨hgm.go.trans hgo4, ?_⟩)⟩
    refine ⟨⟨fun hin => ?_, w.heap.size, rfl, hgm.go.size, ?_, W.noD⟩, hmk⟩
    · have : ∀ (ds : List Deferred), Mk w0.heap.size w φ (hp H) ds → ({ target := .collected w.heap.size, args := #[] } : Deferred) ∈ ds → False := by
        intro ds
        induction ds with
        | nil => intro _ hm; simp at hm
        | cons d ds ih =>
          rintro ⟨⟨_, D', k1, _, k3, _⟩, k5⟩ hm
          rcases List.mem_cons.1 hm with hm | hm
          · subst hm
            injection k1 with k1
            injection k1 with k1
            have := (Array.getElem?_eq_some_iff.1 k3).1
            omega
          · exact ih k5 hm
      exact this _ hgm.mks hin
    · rw [putObj_heap _ _ _ (by omega)]; exact W.hD
end
end Go.Proofs.YtmflfcbebeikcaaGreatDoor.Q

namespace Go.Proofs.YtmflfcbebeikcaaGreatDoor.Q
variable [Amb]
section
variable {P : Program} {tt : TT} {n : Nat} {k : Md} {ρ : Env} {H : List Ob} {Q : Post}
theorem hp_snoc (H : List Ob) (ob : Ob) (i : Nat) : hp (H ++ [ob]) i = if i = H.length then some ob else hp H i := by
  unfold hp
  rw [List.getElem?_append]
  by_cases h : i < H.length
  · rw [if_pos h, if_neg (by omega)]
  · rw [if_neg h]
    by_cases e : i = H.length
    · subst e; simp
    · rw [if_neg e, List.getElem?_eq_none (by simp; omega), List.getElem?_eq_none (by omega)]
theorem tip_own (φ : Loc) (i e m : Nat) (A : Option (Nat × Nat)) (b : Nat) : Owns (setLoc φ i m (A, m)) i (.tip e m) b = False := by
  simp only [Owns, own, setLoc_same]
  cases A with
  | none => simp
  | some p => simp
theorem Sit.tip {G : Imm} {w : World} {φ : Loc} (hs : Sit G w φ (hp H)) (e m : Nat) (A : Option (Nat × Nat)) : Sit G w (setLoc φ H.length m (A, m)) (hp (H ++ [Ob.tip e m])) := by
  have hn : hp H H.length = none := by simp [hp]
  have hφ := hs.un _ hn
  have hple : φ.le (setLoc φ H.length m (A, m)) := setLoc_le (hφ m)
  have hown : ∀ i ob, i ≠ H.length → Owns (setLoc φ H.length m (A, m)) i ob = Owns φ i ob := fun i ob hi => own_le fun q => setLoc_ne hi
  refine ⟨hs.inv, fun i ob hi => ?_, fun i j ob ob' b hij hi hj hbi hbj => ?_, fun i hi q => ?_⟩
  · rw [hp_snoc] at hi
    split at hi
    · rename_i he
      subst he
      injection hi with hi; subst hi
      exact ⟨A, m, setLoc_same .., Nat.le_refl _, fun q hq => by
        unfold setLoc
        rw [if_neg (by omega)]
        exact hφ q, fun hc => absurd hc (by omega)⟩
    · rename_i he
      exact (hs.holds i ob hi).keep (Imm.le.refl _) hple (fun q => setLoc_ne he) (fun b _ => ⟨rfl, fun _ => rfl⟩)
  · rw [hp_snoc] at hi hj
    split at hi
    · rename_i he; subst he
      injection hi with hi; subst hi
      rw [tip_own] at hbi; cases hbi
    · rename_i he
      split at hj
      · rename_i he'; subst he'
        injection hj with hj; subst hj
        rw [tip_own] at hbj; cases hbj
      · rename_i he'
        rw [hown i ob he] at hbi
        rw [hown j ob' he'] at hbj
        exact hs.dist i j ob ob' b hij hi hj hbi hbj
  · rw [hp_snoc] at hi
    split at hi
    · cases hi
    · rename_i he
      rw [setLoc_ne he]
      exact hs.un i hi q
theorem Goes.tip {G1 G : Imm} {w1 w : World} {φ1 φ : Loc} {H1 : Hp} (hs : Sit G w φ (hp H)) (hg : Goes G1 w1 φ1 H1 G w φ (hp H)) (e m : Nat) (A : Option (Nat × Nat)) : Goes G1 w1 φ1 H1 G w (setLoc φ H.length m (A, m)) (hp (H ++ [Ob.tip e m])) := by
  have hn : hp H H.length = none := by simp [hp]
  refine ⟨hg.le, hg.ple.trans (setLoc_le (hs.un _ hn m)), hg.os, hg.tape, hg.output, hg.size, hg.block, fun b hb => ?_⟩
  obtain ⟨i, ob, hi, ho⟩ := hb
  rw [hp_snoc] at hi
  split at hi
  · rename_i he; subst he
    injection hi with hi; subst hi
    rw [tip_own] at ho; cases ho
  · rename_i he
    exact hg.owns b ⟨i, ob, hi, by rw [own_le (φ := φ) (φ' := setLoc φ H.length m (A, m)) (fun q => setLoc_ne he)] at ho; exact ho⟩
/-- A slot's slice, as long as its room: it may grow. -/
theorem SWp.tipSlot {c : Code} (t e : Nat) {rows : List (List D)} (ht : lk ρ t = some (.fsl rows)) (h : SWp P n k c ((t, .gsl rows H.length) :: ρ) (H ++ [Ob.tip e rows.length]) Q) : SWp P n k c ρ H Q := by
  intro G1 w1 φ1 H1 G w φ a Qc h0 hr hg hQ
  obtain ⟨v, hv, A, rfl, hA⟩ := hr.env t _ ht
  have hple : φ.le (setLoc φ H.length rows.length (A, rows.length)) := setLoc_le (hr.sit.un _ (by simp [hp]) _)
  refine h G1 w1 φ1 H1 G w (setLoc φ H.length rows.length (A, rows.length)) a Qc h0 ⟨hr.sit.tip e rows.length A, fun u x hx => ?_, hr.size⟩ (hg.trans (Goes.tip hr.sit (Goes.refl _ _ _ _) e rows.length A) rfl) hQ
  rw [lk_put] at hx
  split at hx
  · rename_i hu; subst hu
    injection hx with hx; subst hx
    exact ⟨_, hv, A, rows.length, setLoc_same .., rfl, Nat.le_refl _, hA⟩
  · obtain ⟨v, h1, h2⟩ := hr.env u x hx
    exact ⟨v, h1, x.rep_mono (Imm.le.refl _) hple v h2⟩
theorem hp_set {H : List Ob} {i : Nat} {ob : Ob} (h : i < H.length) (j : Nat) : hp (H.set i ob) j = if j = i then some ob else hp H j := by
  unfold hp
  rw [List.getElem?_set]
  by_cases e : i = j
  · subst e; simp [h]
  · rw [if_neg e, if_neg (Ne.symm e)]
theorem Goes.retell {G1 G : Imm} {w1 w : World} {φ1 φ : Loc} {H1 : Hp} (hg : Goes G1 w1 φ1 H1 G w φ (hp H)) (i : Nat) {cells cells' : List V} (hi : H[i]? = some (.box cells)) : Goes G1 w1 φ1 H1 G w φ (hp (H.set i (.box cells'))) := by
  refine ⟨hg.le, hg.ple, hg.os, hg.tape, hg.output, hg.size, hg.block, fun b hb => ?_⟩
  obtain ⟨j, ob, hj, ho⟩ := hb
  rw [hp_set (lt_of_get hi)] at hj
  split at hj
  · rename_i he; subst he
    injection hj with hj; subst hj
    exact hg.owns b ⟨j, _, hi, ho⟩
  · exact hg.owns b ⟨j, ob, hj, ho⟩
/-- A box's slice, as long as its room: it may grow. -/
theorem SWp.tipBox {c : Code} (i j e : Nat) {cells : List V} {rows : List (List D)} (hi : H[i]? = some (.box cells)) (hj : cells[j]? = some (.fsl rows)) (h : SWp P n k c ρ ((H ++ [Ob.tip e rows.length]).set i (.box (cells.set j (.gsl rows H.length)))) Q) : SWp P n k c ρ H Q := by
  intro G1 w1 φ1 H1 G w φ a Qc h0 hr hg hQ
  obtain ⟨b, c', T, us, h1, h2, h3, h4, h5⟩ := hr.sit.holds i _ hi
  obtain ⟨v, hv, A, rfl, hA⟩ := repVs_get h3 j _ hj
  have hlt := lt_of_get hi
  have hple : φ.le (setLoc φ H.length rows.length (A, rows.length)) := setLoc_le (hr.sit.un _ (by simp [hp]) _)
  have hi' : (H ++ [Ob.tip e rows.length])[i]? = some (.box cells) := by rw [List.getElem?_append, if_pos hlt]; exact hi
  have hs' := hr.sit.tip e rows.length A
  have hφi : setLoc φ H.length rows.length (A, rows.length) i 0 = φ i 0 := setLoc_ne (by omega)
  have hs2 : Sit G w (setLoc φ H.length rows.length (A, rows.length)) (hp ((H ++ [Ob.tip e rows.length]).set i (.box (cells.set j (.gsl rows H.length))))) := by
    refine ⟨hs'.inv, fun l ob hl => ?_, fun i' l ob ob' b hij hi2 hl hbi hbl => ?_, fun l hl q => ?_⟩
    · rw [hp_set (by simp; omega)] at hl
      split at hl
      · rename_i he; subst he
        injection hl with hl; subst hl
        refine ⟨b, c', T, us, by rw [hφi]; exact h1, h2, ?_, h4, h5⟩
        refine repVs_of (by simp [repVs_len h3]) fun m x u hm hu => ?_
        rw [List.getElem?_set] at hm
        split at hm
        · rename_i hjm; subst hjm
          split at hm
          · injection hm with hm; subst hm
            rw [hv] at hu; injection hu with hu; subst hu
            exact ⟨A, rows.length, setLoc_same .., rfl, Nat.le_refl _, hA⟩
          · cases hm
        · obtain ⟨u', e1, e2⟩ := repVs_get h3 m x hm
          rw [e1] at hu; injection hu with hu; subst hu
          exact x.rep_mono (Imm.le.refl _) hple _ e2
      · exact hs'.holds l ob hl
    · have key : ∀ j' ob b, hp ((H ++ [Ob.tip e rows.length]).set i (.box (cells.set j (.gsl rows H.length)))) j' = some ob → Owns (setLoc φ H.length rows.length (A, rows.length)) j' ob b → ∃ ob0, hp (H ++ [Ob.tip e rows.length]) j' = some ob0 ∧ Owns (setLoc φ H.length rows.length (A, rows.length)) j' ob0 b := by
        intro j' ob b hj' hb
        rw [hp_set (by simp; omega)] at hj'
        split at hj'
        · rename_i he; subst he
          injection hj' with hj'; subst hj'
          exact ⟨_, hi', hb⟩
        · exact ⟨ob, hj', hb⟩
      obtain ⟨o1, a1, a2⟩ := key _ _ _ hi2 hbi
      obtain ⟨o2, b1, b2⟩ := key _ _ _ hl hbl
      exact hs'.dist i' l o1 o2 b hij a1 b1 a2 b2
    · rw [hp_set (by simp; omega)] at hl
      split at hl
      · cases hl
      · exact hs'.un l hl q
  refine h G1 w1 φ1 H1 G w (setLoc φ H.length rows.length (A, rows.length)) a Qc h0 ⟨hs2, fun u x hx => ?_, hr.size⟩ (hg.trans ((Goes.tip hr.sit (Goes.refl _ _ _ _) e rows.length A).retell i hi') rfl) hQ
  obtain ⟨v, h1, h2⟩ := hr.env u x hx
  exact ⟨v, h1, x.rep_mono (Imm.le.refl _) hple v h2⟩
/-- An array that is written no more: its cells are known for good. -/
theorem Sit.freeze {G : Imm} {w : World} {φ : Loc} (hs : Sit G w φ (hp H)) (i : Nat) {e : Nat} {rows : List (List D)} (hi : H[i]? = some (.parr e rows)) :
    ∃ G' : Imm, G.le G' ∧ Sit G' w φ (hp (H.set i .dead)) ∧ (∀ v, (V.arr i 0 rows.length).rep G φ v → (V.d (.sl rows)).rep G' φ v) ∧
      ∀ G1 w1 φ1 H1, Goes G1 w1 φ1 H1 G w φ (hp H) → Goes G1 w1 φ1 H1 G' w φ (hp (H.set i .dead)) := by
  obtain ⟨b, T, us, h1, h2, h3, h4, h5⟩ := hs.holds i _ hi
  have hlt := lt_of_get hi
  have hown : Owns φ i (.parr e rows) b := by simp [Owns, own, h1]
  have hG : ∀ b', b' ≠ b → ∀ o, addBlk G b us b' o = G b' o := fun b' hb o => by unfold addBlk; rw [if_neg hb]
  have hle : G.le (addBlk G b us) := addBlk_le h5 us
  have hset : ∀ j ob, hp (H.set i .dead) j = some ob → (j = i ∧ ob = .dead) ∨ (j ≠ i ∧ hp H j = some ob) := fun j ob hj => by
    rw [hp_set hlt] at hj
    split at hj
    · rename_i he; injection hj with hj; exact .inl ⟨he, hj.symm⟩
    · rename_i he; exact .inr ⟨he, hj⟩
  refine ⟨addBlk G b us, hle, ⟨hs.inv.of hle (fun _ _ _ _ _ _ _ => rfl) fun b' o v hg => ?_, fun j ob hj => ?_, fun j j' ob ob' b' hjj hj hj' hb hb' => ?_, fun j hj q => ?_⟩, ?_, fun G1 w1 φ1 H1 hg => ?_⟩
  · unfold addBlk at hg
    split at hg
    · rename_i hb; subst hb
      rw [cell_us w h2]; exact hg
    · exact hs.inv b' o v hg
  · rcases hset j ob hj with ⟨rfl, rfl⟩ | ⟨hne, hj⟩
    · trivial
    · refine (hs.holds j ob hj).keep hle (Loc.le.refl _) (fun _ => rfl) fun b' hb => ⟨rfl, hG b' fun e' => ?_⟩
      subst e'
      exact hs.dist j i ob _ b' hne hj hi hb hown
  · rcases hset j ob hj with ⟨rfl, rfl⟩ | ⟨hne, hj⟩
    · simp [Owns, own] at hb
    · rcases hset j' ob' hj' with ⟨rfl, rfl⟩ | ⟨hne', hj'⟩
      · simp [Owns, own] at hb'
      · exact hs.dist j j' ob ob' b' hjj hj hj' hb hb'
  · rw [hp_set hlt] at hj
    split at hj
    · cases hj
    · exact hs.un j hj q
  · rintro v ⟨b', c, k1, k, k2, rfl⟩
    rw [h1] at k1; injection k1 with k1; injection k1 with k1 k1'; injection k1 with k1; injection k1 with k1; subst k1; subst k1'
    refine ⟨some ⟨b, 0, none⟩, k, by simp, k2, fun _ => ⟨b, 0, e, rfl, repRows_of fun m r hm => ⟨(h4 m r hm).1, repRow_of fun j d hj => ?_⟩⟩⟩
    obtain ⟨u, u1, u2⟩ := (h4 m r hm).2 j d hj
    refine ⟨u, ?_, d.rep_mono hle u u2⟩
    unfold addBlk
    rw [if_pos rfl, Nat.zero_add]; exact u1
  · refine ⟨hg.le.trans hle, hg.ple, hg.os, hg.tape, hg.output, hg.size, fun b' hb hn => ⟨(hg.block b' hb hn).1, fun o => ?_⟩, fun b' hb => ?_⟩
    · have hne : b' ≠ b := fun e' => by
        subst e'
        rcases hg.owns b' ⟨i, _, hi, hown⟩ with h | h
        · exact hn h
        · omega
      rw [hG b' hne o]; exact (hg.block b' hb hn).2 o
    · obtain ⟨j, ob, hj, ho⟩ := hb
      rcases hset j ob hj with ⟨rfl, rfl⟩ | ⟨hne, hj⟩
      · simp [Owns, own] at ho
      · exact hg.owns b' ⟨j, ob, hj, ho⟩
/-- A call that is given an array and only reads it. -/
theorem PCalls.freeze {f : FuncId} {args : List V} {h : List Ob} {R : V → List Ob → Prop} (j i : Nat) {e : Nat} {rows : List (List D)} (hj : args[j]? = some (.arr i 0 rows.length)) (hi : h[i]? = some (.parr e rows))
    (c : PCalls P f (args.set j (.d (.sl rows))) (h.set i .dead) R) : PCalls P f args h R := by
  refine ⟨c.1, fun G w φ vs hs hr => ?_⟩
  obtain ⟨G', hle, hs', hv, hg⟩ := hs.freeze i hi
  obtain ⟨v, v1, v2⟩ := repVs_get hr j _ hj
  have hr' : repVs G' φ (args.set j (.d (.sl rows))) vs := by
    have := repVs_set (repVs_mono hle (Loc.le.refl _) _ _ hr) j (hv v v2)
    have e1 : vs.set j v = vs := by
      refine List.ext_getElem? fun m => ?_
      rw [List.getElem?_set]
      split
      · rename_i hjm; subst hjm; rw [if_pos (lt_of_get v1), v1]
      · rfl
    rwa [e1] at this
  refine (c.2 G' w φ vs hs' hr').mono fun e w' ⟨v, r, h', G2, φ', h1, h2, h3, h4, h5, h6⟩ => ⟨v, r, h', G2, φ', h1, h2, by simpa using h3, h4, (hg _ _ _ _ (Goes.refl _ _ _ _)).trans h5, h6⟩
/-- The same, of a slot. -/
theorem SWp.freeze {c : Code} (t i : Nat) {e : Nat} {rows : List (List D)} (ht : lk ρ t = some (.arr i 0 rows.length)) (hi : H[i]? = some (.parr e rows)) (h : SWp P n k c ((t, .d (.sl rows)) :: ρ) (H.set i .dead) Q) : SWp P n k c ρ H Q := by
  intro G1 w1 φ1 H1 G w φ a Qc h0 hr hg hQ
  obtain ⟨v, hv, hvr⟩ := hr.env t _ ht
  obtain ⟨G', hle, hs', hv', hg'⟩ := hr.sit.freeze i hi
  refine h G1 w1 φ1 H1 G' w φ a Qc h0 ⟨hs', fun u x hx => ?_, hr.size⟩ (hg.trans (hg' _ _ _ _ (Goes.refl _ _ _ _)) rfl) hQ
  rw [lk_put] at hx
  split at hx
  · rename_i hu; subst hu
    injection hx with hx; subst hx
    exact ⟨v, hv, hv' v hvr⟩
  · obtain ⟨v, h1, h2⟩ := hr.env u x hx
    exact ⟨v, h1, x.rep_mono hle (Loc.le.refl _) v h2⟩
/-- A call that is lent nothing leaves all objects as they are. -/
theorem PFun.frame {f : FuncId} {args : List V} {r : V} {h : List Ob} {R : V → List Ob → Prop} (c : PFun P f args [] r []) (ha : rens (pos []) args = some args) (hr : r.ren (back [] h.length) = some r) (k : R r h) : PCalls P f args h R := by
  refine ⟨c.1, fun G w φ vs hs hv => ?_⟩
  have ho : obsAt h (pos []) [] = some [] := rfl
  have hls := lent_sit (H := h) hs List.nodup_nil (fun i hi => by simp at hi) ho
  refine (c.2 G w (lentLoc φ []) vs hls (rens_rep (lent_moves φ []) _ _ _ ha hv)).mono fun e w' ⟨v, r', h', G', φ', h1, ⟨e1, e2⟩, h3, h4, h5, h6⟩ => ?_
  subst e1; subst e2
  obtain ⟨q1, q2, q3⟩ := call_back (x := r') (H := h) (obs := []) hs List.nodup_nil (by simp) (fun i hi => by simp at hi) ho h4 h5 h3 rfl (fun i h4 h5 => List.getElem?_eq_none h4)
  rw [upd_hp h _ (by simp)] at q1 q2
  exact ⟨v, r', h, G', _, h1, k, Nat.le_refl _, q1, q2, V.ren_rep q3 _ _ _ hr h6⟩
end
end Go.Proofs.YtmflfcbebeikcaaGreatDoor.Q
