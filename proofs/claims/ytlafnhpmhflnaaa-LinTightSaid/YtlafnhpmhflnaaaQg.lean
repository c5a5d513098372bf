/- Operations on slices and strings: elements, lengths, cuts; new variables, structs and slices. No condition. -/
import Derived.Test.YtlafnhpmhflnaaaQf
set_option linter.unusedVariables false
set_option linter.unusedSectionVars false
set_option linter.unnecessarySimpa false
set_option linter.unusedSimpArgs false
namespace Go.Proofs.Ytlafnhpmhflnaaa.Q
variable [Amb]
section
variable {P : Program} {tt : TT} {o : Oper} {ρ : Env} {H : List Ob} {K : Eff → Prop}

/-! ### elements -/
def pRow (tt : TT) (e : TypeId) (rows : List (List D)) (i : Int) (K : Eff → Prop) : Prop :=
  match tt e with
  | some te => PIdx rows i fun row => condP (Nat.beq row.length te.size) (kv K (.iptr row))
  | none => False
def pIA (tt : TT) (t : TypeId) (X Y : V) (H : List Ob) (K : Eff → Prop) : Prop :=
  match tt t, Y with
  | some e, .d (.int _ i) =>
    match e.kind with
    | .slice el =>
      match X with
      | .d (.sl rows) => pRow tt el rows i K
      | .fsl rows => pRow tt el rows i K
      | .gsl rows _ => pRow tt el rows i K
      | .arr id off len =>
        match tt el, H[id]? with
        | some te, some (.parr esz rows) => (0 ≤ i ∧ i < len) ∧ condP (Nat.beq esz te.size) (K ⟨.eptr id (off + i.toNat) 0, [id], [], []⟩)
        | _, _ => False
      | _ => False
    | .arr n el =>
      match tt el with
      | some te => (0 ≤ i ∧ i < n) ∧ (match X with
        | .ptr id p => kv K (.ptr id (p + i.toNat * te.size))
        | .iptr row => kv K (.iptr (row.drop (i.toNat * te.size)))
        | .eptr id j p => kv K (.eptr id j (p + i.toNat * te.size))
        | _ => False)
      | none => False
    | _ => False
  | _, _ => False
theorem sl_at {G : Imm} {rows : List (List D)} {i : Nat} {row : List D} {A : Option Addr} (hrow : rows[i]? = some row) (h : rows ≠ [] → ∃ b o e, A = some ⟨b, o, none⟩ ∧ repRows G b o e rows) : ∃ b o, A = some ⟨b, o, none⟩ ∧ repRow G b (o + i * row.length) row := by
  obtain ⟨b, o, e, h1, h2⟩ := h (fun hn => by rw [hn] at hrow; cases hrow)
  obtain ⟨h3, h4⟩ := repRows_get h2 i row hrow
  exact ⟨b, o, h1, by rw [h3]; exact h4⟩
theorem pIA_sem (htt : TTok P tt) {t : TypeId} {x y : Operand} {X Y : V} (ho : o.op = .indexAddr t x y) (hx : ev ρ x = some X) (hy : ev ρ y = some Y) (h : pIA tt t X Y H K) : ∃ e, K e ∧ Tri P o ρ H e := by
  have hox : x ∈ o.op.operands := by rw [ho]; simp [Op.operands]
  have hoy : y ∈ o.op.operands := by rw [ho]; simp [Op.operands]
  unfold pIA at h
  split at h
  · rename_i e kk i he
    obtain ⟨ti, d, h1, h2, _, _, h3, _⟩ := tt_get htt he
    split at h
    · rename_i el hk
      rw [hk] at h3
      rw [mkK_slice h3] at h2
      have run : ∀ (a : Act) (b p l c : Nat) (w : World) (te : TE), tt el = some te → a.eval x = .slice (some ⟨b, p, none⟩) l c → a.eval y = .int kk i → 0 ≤ i → i < l → (execOp a.eval o).run P w = .ok (.value (.pointer (some ⟨b, p + i.toNat * te.size, none⟩))) w := by
        intro a b p l c w te hte e1 e2 e3 e4
        unfold execOp
        rw [ho]
        simp [Instr.indexAt, e1, e2, asIntOf, run_underlying h2, e3, e4, run_sizeOf w htt hte, add_lit]
      have rows_case : ∀ (rows : List (List D)), (∀ (a : Act) (G : Imm) (φ : Loc), OpRep o ρ a G φ → ∃ (A : Option Addr) (c : Nat), a.eval x = .slice A rows.length c ∧ (rows ≠ [] → ∃ b o e, A = some ⟨b, o, none⟩ ∧ repRows G b o e rows)) → pRow tt el rows i K → ∃ e, K e ∧ Tri P o ρ H e := by
        intro rows hrows h
        unfold pRow at h
        split at h
        · rename_i te hte
          obtain ⟨h0, row, hrow, h⟩ := h
          obtain ⟨hc, h⟩ := condP_out h
          have hc := Nat.eq_of_beq_eq_true hc
          refine kv_sem h fun a G w φ hi hr => ?_
          obtain ⟨A, c, k1, k2⟩ := hrows a G φ hr
          obtain ⟨b, p, rfl, k3⟩ := sl_at hrow k2
          have hlt := lt_of_get hrow
          refine ⟨_, run a b p _ c w te hte k1 (hr y _ hoy hy) h0 (by omega), ⟨b, _, rfl, by rw [← hc]; exact k3⟩⟩
        · exact h.elim
      split at h
      · exact rows_case _ (fun a G φ hr => let ⟨A, c, e1, e2, e3⟩ := hr x _ hox hx; ⟨A, c, e1, e3⟩) h
      · exact rows_case _ (fun a G φ hr => let ⟨A, e1, e3⟩ := hr x _ hox hx; ⟨Addr0 A, _, e1, a0 e3⟩) h
      · exact rows_case _ (fun a G φ hr => let ⟨A, c, _, e1, e2, e3⟩ := hr x _ hox hx; ⟨Addr0 A, c, e1, a0 e3⟩) h
      · rename_i id off len
        split at h
        · rename_i te esz rows hte hH
          obtain ⟨⟨h0, hl⟩, h⟩ := h
          obtain ⟨hc, h⟩ := condP_out h
          have hc := Nat.eq_of_beq_eq_true hc
          have hid := lt_of_get hH
          refine ⟨_, h, tri_val (by simpa using hid) fun a G w φ Hx hs hr ha => ?_⟩
          obtain ⟨b, c, k1, k, k2, k3⟩ := hr x _ hox hx
          obtain ⟨b', T, us, g1, g2, g3, g4, g5⟩ := hs.holds id _ ((ha id (by simp)).trans hH)
          rw [k1] at g1; injection g1 with g1; injection g1 with g1 g1'; injection g1 with g1; injection g1 with g1; subst g1; subst g1'
          refine ⟨_, run a b _ _ k w te hte k3 (hr y _ hoy hy) h0 hl, ⟨b, c, k1, by rw [← hc, Nat.add_mul]; simp⟩⟩
        · exact h.elim
      · exact h.elim
    · rename_i n el hk
      rw [hk] at h3
      rw [mkK_arr h3] at h2
      split at h
      · rename_i te hte
        obtain ⟨⟨h0, hl⟩, h⟩ := h
        have run : ∀ (a : Act) (b p : Nat) (w : World), a.eval x = .pointer (some ⟨b, p, none⟩) → a.eval y = .int kk i → (execOp a.eval o).run P w = .ok (.value (.pointer (some ⟨b, p + i.toNat * te.size, none⟩))) w := by
          intro a b p w e1 e2
          unfold execOp
          rw [ho]
          simp [Instr.indexAt, Instr.sureAddr, e1, e2, asIntOf, run_underlying h2, h0, hl, run_sizeOf w htt hte, add_lit]
        split at h
        · refine kv_sem h fun a G w φ hi hr => ?_
          obtain ⟨b, c, k1, k2⟩ := hr x _ hox hx
          exact ⟨_, run a b _ w k2 (hr y _ hoy hy), ⟨b, c, k1, rfl⟩⟩
        · refine kv_sem h fun a G w φ hi hr => ?_
          obtain ⟨b, p, k1, k2⟩ := hr x _ hox hx
          exact ⟨_, run a b _ w k1 (hr y _ hoy hy), ⟨b, _, rfl, repRow_drop k2 _⟩⟩
        · refine kv_sem h fun a G w φ hi hr => ?_
          obtain ⟨b, c, k1, k2⟩ := hr x _ hox hx
          exact ⟨_, run a b _ w k2 (hr y _ hoy hy), ⟨b, c, k1, by rw [Nat.add_assoc]⟩⟩
        · exact h.elim
      · exact h.elim
    · exact h.elim
  · exact h.elim
def pIx (tt : TT) (t : TypeId) (X Y : V) (K : Eff → Prop) : Prop :=
  match tt t, X, Y with
  | some e, .d (.str s), .d (.int _ i) =>
    match e.kind with
    | .str => PIdx s i fun c => kv K (.d (.int .u8 c.toNat))
    | _ => False
  | some e, .agg cs, .d (.int _ i) =>
    match e.kind with
    | .arr n el => match tt el with
      | some te => (0 ≤ i ∧ i < n) ∧ pPart tt el cs (i.toNat * te.size) K
      | none => False
    | _ => False
  | _, _, _ => False
theorem str_get (s : List UInt8) (i : Nat) : (ByteArray.mk s.toArray)[i]? = s[i]? := by
  by_cases h : i < s.length
  · rw [List.getElem?_eq_getElem h]
    have : i < (ByteArray.mk s.toArray).size := by simpa [ByteArray.size] using h
    rw [getElem?_pos _ i this]
    rfl
  · rw [List.getElem?_eq_none (by omega)]
    have : ¬ i < (ByteArray.mk s.toArray).size := by simpa [ByteArray.size] using h
    rw [getElem?_neg _ i this]
theorem pIx_sem (htt : TTok P tt) {t : TypeId} {x y : Operand} {X Y : V} (ho : o.op = .index t x y) (hx : ev ρ x = some X) (hy : ev ρ y = some Y) (h : pIx tt t X Y K) : ∃ e, K e ∧ Tri P o ρ H e := by
  have hox : x ∈ o.op.operands := by rw [ho]; simp [Op.operands]
  have hoy : y ∈ o.op.operands := by rw [ho]; simp [Op.operands]
  unfold pIx at h
  split at h
  · rename_i e s kk i he
    split at h
    · rename_i hk
      obtain ⟨ti, d, h1, h2, _, _, h3, _⟩ := tt_get htt he
      rw [hk] at h3
      rw [mkK_str h3] at h2
      obtain ⟨h0, c, hc, h⟩ := h
      refine kv_sem h fun a G w φ hi hr => ⟨.int .u8 c.toNat, ?_, rfl⟩
      have ex : a.eval x = .string ⟨s.toArray⟩ := hr x _ hox hx
      have ey : a.eval y = .int kk i := hr y _ hoy hy
      unfold execOp
      rw [ho]
      simp [Instr.index, asIntOf, ex, ey, run_underlying h2, h0, str_get, hc]
    · exact h.elim
  · rename_i e cs kk i he
    split at h
    · rename_i n el hk
      split at h
      · rename_i te hte
        obtain ⟨ti, d, h1, h2, _, _, h3, _⟩ := tt_get htt he
        rw [hk] at h3
        rw [mkK_arr h3] at h2
        obtain ⟨⟨h0, hl⟩, h⟩ := h
        refine pPart_sem htt h fun a G w φ hi hr => ?_
        obtain ⟨us, k1, k2, k3⟩ := hr x _ hox hx
        refine ⟨us, k2, k3, fun v hv => ?_⟩
        have ey : a.eval y = .int kk i := hr y _ hoy hy
        unfold execOp
        rw [ho]
        simp [Instr.index, asIntOf, k1, ey, run_underlying h2, h0, hl, run_sizeOf w htt hte, hv]
      · exact h.elim
    · exact h.elim
  · exact h.elim

/-! ### lengths -/
def pLen (tt : TT) (t : TypeId) (X : V) (K : Eff → Prop) : Prop :=
  match tt t with
  | some e =>
    match e.kind, X with
    | .str, .d (.str s) => kv K (.d (.int .i64 s.length))
    | .slice _, .d (.sl rows) => kv K (.d (.int .i64 rows.length))
    | .slice _, .fsl rows => kv K (.d (.int .i64 rows.length))
    | .slice _, .gsl rows _ => kv K (.d (.int .i64 rows.length))
    | .slice _, .arr _ _ len => kv K (.d (.int .i64 len))
    | _, _ => False
  | none => False
theorem pLen_sem (htt : TTok P tt) {t : TypeId} {x : Operand} {X : V} (ho : o.op = .call { callee := .builtin .len, args := #[x], argTypes := #[t] }) (hx : ev ρ x = some X) (h : pLen tt t X K) : ∃ e, K e ∧ Tri P o ρ H e := by
  have hox : x ∈ o.op.operands := by rw [ho]; simp [Op.operands, Call.operands]
  unfold pLen at h
  split at h
  · rename_i e he
    obtain ⟨ti, d, h1, h2, _, _, h3, _⟩ := tt_get htt he
    have sl : ∀ (el : TypeId) (A : Option Addr) (l c : Nat) (a : Act) (w : World), P.underlying t = some (.slice el) → a.eval x = .slice A l c → (execOp a.eval o).run P w = .ok (.value (.int .i64 l)) w := by
      intro el A l c a w e1 e2
      unfold execOp
      rw [ho]
      simp [resolve, invoke, builtin, Builtin.len_, e2, run_underlying e1, goInt]
    split at h
    · rename_i s hk
      rw [hk] at h3
      rw [mkK_str h3] at h2
      refine kv_sem h fun a G w φ hi hr => ⟨_, ?_, rfl⟩
      have ex : a.eval x = .string ⟨s.toArray⟩ := hr x _ hox hx
      have hsz : (ByteArray.mk s.toArray).size = s.length := by simp [ByteArray.size]
      unfold execOp
      rw [ho]
      simp [resolve, invoke, builtin, Builtin.len_, ex, run_underlying h2, goInt, hsz]
    · rename_i el rows hk
      rw [hk] at h3; rw [mkK_slice h3] at h2
      refine kv_sem h fun a G w φ hi hr => ⟨_, ?_, rfl⟩
      obtain ⟨A, c, e1, _⟩ := hr x _ hox hx
      exact sl el _ _ c a w h2 e1
    · rename_i el rows hk
      rw [hk] at h3; rw [mkK_slice h3] at h2
      refine kv_sem h fun a G w φ hi hr => ⟨_, ?_, rfl⟩
      obtain ⟨A, e1, _⟩ := hr x _ hox hx
      exact sl el _ _ _ a w h2 e1
    · rename_i el rows tip hk
      rw [hk] at h3; rw [mkK_slice h3] at h2
      refine kv_sem h fun a G w φ hi hr => ⟨_, ?_, rfl⟩
      obtain ⟨A, c, _, e1, _⟩ := hr x _ hox hx
      exact sl el _ _ c a w h2 e1
    · rename_i el id off len hk
      rw [hk] at h3; rw [mkK_slice h3] at h2
      refine kv_sem h fun a G w φ hi hr => ⟨_, ?_, rfl⟩
      obtain ⟨b, c, _, k, _, e1⟩ := hr x _ hox hx
      exact sl el _ _ k a w h2 e1
    · exact h.elim
  · exact h.elim

/-! ### cuts -/
/-- A bound that may be missing. -/
def bnd (ρ : Env) : Option Operand → Option (Option Int)
  | none => some none
  | some x => match ev ρ x with
    | some (.d (.int _ n)) => some (some n)
    | _ => none
def cutTo {α : Type} (l : List α) : Option Int → List α
  | none => l
  | some n => l.take n.toNat
def cutFrom {α : Type} (l : List α) : Option Int → List α
  | none => l
  | some n => l.drop n.toNat
def cutOk (len : Nat) : Option Int → Option Int → Prop
  | none, none => True
  | some lo, none => 0 ≤ lo ∧ lo ≤ len
  | none, some hi => 0 ≤ hi ∧ hi ≤ len
  | some lo, some hi => 0 ≤ lo ∧ lo ≤ hi ∧ hi ≤ len
def pCut (tt : TT) (t : TypeId) (X : V) (lo hi : Option Int) (K : Eff → Prop) : Prop :=
  match tt t with
  | some e =>
    match e.kind with
    | .str => match X with
      | .d (.str s) => cutOk s.length lo hi ∧ kv K (.d (.str (cutFrom (cutTo s hi) lo)))
      | _ => False
    | .slice el =>
      match tt el with
      | some te =>
        match X with
        | .d (.sl rows) => cutOk rows.length lo hi ∧ (∀ r ∈ rows, r.length = te.size) ∧ kv K (.d (.sl (cutFrom (cutTo rows hi) lo)))
        | .fsl rows => cutOk rows.length lo hi ∧ (∀ r ∈ rows, r.length = te.size) ∧ kv K (.d (.sl (cutFrom (cutTo rows hi) lo)))
        | .gsl rows _ => cutOk rows.length lo hi ∧ (∀ r ∈ rows, r.length = te.size) ∧ kv K (.d (.sl (cutFrom (cutTo rows hi) lo)))
        | _ => False
      | none => False
    | _ => False
  | none => False
def cutLo : Option Int → Nat
  | none => 0
  | some n => n.toNat
def cutHi (len : Nat) : Option Int → Nat
  | none => len
  | some n => n.toNat
theorem cut_eq {α : Type} (l : List α) (lo hi : Option Int) (h : cutOk l.length lo hi) : cutFrom (cutTo l hi) lo = (l.take (cutHi l.length hi)).drop (cutLo lo) ∧ cutLo lo ≤ cutHi l.length hi ∧ cutHi l.length hi ≤ l.length := by
  cases lo <;> cases hi <;> simp only [cutFrom, cutTo, cutLo, cutHi, cutOk] at h ⊢ <;> refine ⟨?_, ?_, ?_⟩ <;> first | omega | simp
theorem bnd_rep {ρ : Env} {q : Option Operand} {n : Option Int} {a : Act} {G : Imm} {φ : Loc} (h : bnd ρ q = some n) (hr : ∀ x X, some x = q → ev ρ x = some X → X.rep G φ (a.eval x)) : (q = none ∧ n = none) ∨ ∃ x k m, q = some x ∧ n = some m ∧ a.eval x = .int k m := by
  cases q with
  | none => injection h with h; exact .inl ⟨rfl, h.symm⟩
  | some x =>
    unfold bnd at h
    dsimp only at h
    split at h
    · rename_i k m hx
      injection h with h
      exact .inr ⟨x, k, m, rfl, h.symm, hr x _ rfl hx⟩
    · cases h
theorem run_bounds {isS : Bool} {len cap : Nat} {lo hi : Option Value} {l h : Option Int} (w : World)
    (hl : (lo = none ∧ l = none) ∨ ∃ k m, lo = some (.int k m) ∧ l = some m) (hh : (hi = none ∧ h = none) ∨ ∃ k m, hi = some (.int k m) ∧ h = some m) (hc : cutOk len l h) (hcap : len ≤ cap) :
    (Instr.sliceBounds isS len cap lo hi none).run P w = .ok (cutLo l, cutHi len h, cap) w := by
  rcases hl with ⟨rfl, rfl⟩ | ⟨k, m, rfl, rfl⟩ <;> rcases hh with ⟨rfl, rfl⟩ | ⟨k', m', rfl, rfl⟩ <;> simp only [cutOk] at hc
  · simp [Instr.sliceBounds, cutLo, cutHi]
  · have : m' ≤ (cap : Int) := by omega
    simp [Instr.sliceBounds, Instr.sliceBound, asIntOf, cutLo, cutHi, hc.1, this]
  · simp [Instr.sliceBounds, Instr.sliceBound, asIntOf, cutLo, cutHi, hc.1, hc.2]
  · have : m' ≤ (cap : Int) := by omega
    have h2 : 0 ≤ m' := by omega
    have h3 : m ≤ max m' 0 := by omega
    simp [Instr.sliceBounds, Instr.sliceBound, asIntOf, cutLo, cutHi, hc.1, this, h2, h3]
theorem pCut_sem (htt : TTok P tt) {t : TypeId} {x : Operand} {lo hi : Option Operand} {X : V} {l h : Option Int} (ho : o.op = .slice t x lo hi none) (hx : ev ρ x = some X) (hl : bnd ρ lo = some l) (hh : bnd ρ hi = some h) (hk : pCut tt t X l h K) : ∃ e, K e ∧ Tri P o ρ H e := by
  have hox : x ∈ o.op.operands := by rw [ho]; simp [Op.operands]
  have hB : ∀ (a : Act) (G : Imm) (φ : Loc), OpRep o ρ a G φ → ((lo.map a.eval = none ∧ l = none) ∨ ∃ k m, lo.map a.eval = some (.int k m) ∧ l = some m) ∧ ((hi.map a.eval = none ∧ h = none) ∨ ∃ k m, hi.map a.eval = some (.int k m) ∧ h = some m) := by
    intro a G φ hr
    constructor
    · rcases bnd_rep (a := a) (G := G) (φ := φ) hl (fun y Y hy => hr y Y (by rw [ho]; subst hy; simp [Op.operands])) with ⟨e1, e2⟩ | ⟨y, k, m, e1, e2, e3⟩
      · exact .inl ⟨by rw [e1]; rfl, e2⟩
      · exact .inr ⟨k, m, by rw [e1]; simp [e3], e2⟩
    · rcases bnd_rep (a := a) (G := G) (φ := φ) hh (fun y Y hy => hr y Y (by rw [ho]; subst hy; simp [Op.operands])) with ⟨e1, e2⟩ | ⟨y, k, m, e1, e2, e3⟩
      · exact .inl ⟨by rw [e1]; rfl, e2⟩
      · exact .inr ⟨k, m, by rw [e1]; simp [e3], e2⟩
  unfold pCut at hk
  split at hk
  · rename_i e he
    obtain ⟨ti, d, h1, h2, _, _, h3, _⟩ := tt_get htt he
    split at hk
    · rename_i hkind
      rw [hkind] at h3; rw [mkK_str h3] at h2
      split at hk
      · rename_i s
        obtain ⟨hc, hk⟩ := hk
        obtain ⟨c1, c2, c3⟩ := cut_eq s l h hc
        refine kv_sem hk fun a G w φ hi' hr => ?_
        have ex : a.eval x = .string ⟨s.toArray⟩ := hr x _ hox hx
        obtain ⟨b1, b2⟩ := hB a G φ hr
        have hsz : (ByteArray.mk s.toArray).size = s.length := by simp [ByteArray.size]
        have hrun := run_bounds (P := P) (isS := false) w b1 b2 hc (Nat.le_refl s.length)
        refine ⟨.string ((ByteArray.mk s.toArray).extract (cutLo l) (cutHi s.length h)), ?_, ?_⟩
        · unfold execOp
          rw [ho]
          simp [Instr.sliceAt, Instr.slice, ex, run_underlying h2, hsz, hrun]
        · show _ = _
          congr 1
          apply Go.WideShapes.bytes_inj
          rw [Lib.extract_data, c1]
          simp [List.drop_take]
      · exact hk.elim
    · rename_i el hkind
      rw [hkind] at h3; rw [mkK_slice h3] at h2
      split at hk
      · rename_i te hte
        have go : ∀ (rows : List (List D)), (∀ (a : Act) (G : Imm) (φ : Loc), OpRep o ρ a G φ → ∃ (A : Option Addr) (c : Nat), a.eval x = .slice A rows.length c ∧ rows.length ≤ c ∧ (rows ≠ [] → ∃ b o e, A = some ⟨b, o, none⟩ ∧ repRows G b o e rows)) →
            cutOk rows.length l h → (∀ r ∈ rows, r.length = te.size) → kv K (.d (.sl (cutFrom (cutTo rows h) l))) → ∃ e, K e ∧ Tri P o ρ H e := by
          intro rows hrows hc hlen hk
          obtain ⟨c1, c2, c3⟩ := cut_eq rows l h hc
          refine kv_sem hk fun a G w φ hi' hr => ?_
          obtain ⟨A, c, k1, k2, k3⟩ := hrows a G φ hr
          obtain ⟨b1, b2⟩ := hB a G φ hr
          have hrun := run_bounds (P := P) (isS := true) w b1 b2 hc k2
          refine ⟨.slice (if c = cutLo l then A else A.map (·.add (cutLo l * te.size))) (cutHi rows.length h - cutLo l) (c - cutLo l), ?_, ?_⟩
          · unfold execOp
            rw [ho]
            simp [Instr.sliceAt, Instr.slice, k1, run_underlying h2, hrun, run_sizeOf w htt hte]
          · rw [c1]
            have hll : ((rows.take (cutHi rows.length h)).drop (cutLo l)).length = cutHi rows.length h - cutLo l := by simp; omega
            by_cases hcc : c = cutLo l
            · rw [if_pos hcc]
              refine ⟨A, c - cutLo l, by rw [hll], by rw [hll]; omega, fun hne => ?_⟩
              exfalso
              apply hne
              apply List.eq_nil_of_length_eq_zero
              rw [hll]; omega
            · rw [if_neg hcc]
              by_cases hn : rows = []
              · subst hn
                refine ⟨A.map (·.add (cutLo l * te.size)), c - cutLo l, ?_, by rw [hll]; omega, fun hne => by simp at hne⟩
                rw [hll]
              · obtain ⟨b, p, e', rfl, k4⟩ := k3 hn
                have he' : e' = te.size := by
                  obtain ⟨r, hr⟩ := List.exists_mem_of_ne_nil rows hn
                  rw [← repRows_len k4 r hr, hlen r hr]
                subst he'
                refine ⟨some ⟨b, p + cutLo l * te.size, none⟩, c - cutLo l, ?_, by rw [hll]; omega, fun _ => ⟨b, _, te.size, rfl, repRows_drop (repRows_take k4 _) _⟩⟩
                rw [hll]
                simp [add_lit]
        split at hk
        · exact go _ (fun a G φ hr => let ⟨A, c, e1, e2, e3⟩ := hr x _ hox hx; ⟨A, c, e1, e2, e3⟩) hk.1 hk.2.1 hk.2.2
        · exact go _ (fun a G φ hr => let ⟨A, e1, e3⟩ := hr x _ hox hx; ⟨Addr0 A, _, e1, Nat.le_refl _, a0 e3⟩) hk.1 hk.2.1 hk.2.2
        · exact go _ (fun a G φ hr => let ⟨A, c, _, e1, e2, e3⟩ := hr x _ hox hx; ⟨Addr0 A, c, e1, e2, a0 e3⟩) hk.1 hk.2.1 hk.2.2
        · exact hk.elim
      · exact hk.elim
    · exact hk.elim
  · exact hk.elim
end
end Go.Proofs.Ytlafnhpmhflnaaa.Q
