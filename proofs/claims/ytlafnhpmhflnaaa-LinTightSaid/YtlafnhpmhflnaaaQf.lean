/- Operations that yield a value out of values: arithmetic, comparisons, places, parts, lengths. No condition. -/
import Derived.Test.YtlafnhpmhflnaaaQe
import Derived.Laws.Strings
import Derived.Laws.StructEq
import Derived.Lib.SmallJoins
import Derived.Laws.Small
import Derived.WideShapes
set_option linter.unusedVariables false
set_option linter.unusedSectionVars false
set_option linter.unnecessarySimpa false
set_option linter.unusedSimpArgs false
namespace Go.Proofs.Ytlafnhpmhflnaaa.Q
variable [Amb]
section
variable {P : Program} {tt : TT} {o : Oper} {ρ : Env} {H : List Ob} {K : Eff → Prop}
/-- A value, nothing looked at. -/
def kv (K : Eff → Prop) (x : V) : Prop := K ⟨x, [], [], []⟩
/-- Whatever the operands are. -/
theorem kv_sem {x : V} (h : kv K x) (k : ∀ (a : Act) (G : Imm) (w : World) (φ : Loc), Inv G w → OpRep o ρ a G φ → ∃ v, (execOp a.eval o).run P w = .ok (.value v) w ∧ x.rep G φ v) : ∃ e, K e ∧ Tri P o ρ H e :=
  ⟨_, h, tri_val (by simp) fun a G w φ Hx hs hr _ => k a G w φ hs.inv hr⟩

/-- A bool: from here on it is one or the other. -/
def kb (K : Eff → Prop) (b : Bool) : Prop := brP b (kv K (.d (.bool true))) (kv K (.d (.bool false)))
theorem kb_out {b : Bool} (h : kb K b) : kv K (.d (.bool b)) := by
  cases b
  · exact h
  · exact h
theorem pMove_sem {x : Operand} {X : V} (ho : o.op = .move x ∨ o.op = .assign x) (hx : ev ρ x = some X) (h : kv K X) : ∃ e, K e ∧ Tri P o ρ H e :=
  kv_sem h fun a G w φ hi hr => ⟨a.eval x, by unfold execOp; rcases ho with ho | ho <;> rw [ho] <;> rfl, hr x X (by rcases ho with ho | ho <;> rw [ho] <;> simp [Op.operands]) hx⟩

/-! ### whole numbers, bools, strings -/
def pInt (op : BinOp) (k : IntKind) (a b : Int) (K : Eff → Prop) : Prop :=
  match op with
  | .add => kv K (.d (.int k (k.wrap (a + b))))
  | .sub => kv K (.d (.int k (k.wrap (a - b))))
  | .mul => kv K (.d (.int k (k.wrap (a * b))))
  | .quo => b ≠ 0 ∧ kv K (.d (.int k (k.wrap (a.tdiv b))))
  | .rem => b ≠ 0 ∧ kv K (.d (.int k (a.tmod b)))
  | .eql => kb K (a == b)
  | .neq => kb K (a != b)
  | .lss => kb K (decide (a < b))
  | .leq => kb K (decide (a ≤ b))
  | .gtr => kb K (decide (a > b))
  | .geq => kb K (decide (a ≥ b))
  | .and => kv K (.d (.int k (bits .and k a b)))
  | .or => kv K (.d (.int k (bits .or k a b)))
  | .xor => kv K (.d (.int k (bits .xor k a b)))
  | .andNot => kv K (.d (.int k (bits .andNot k a b)))
  | _ => False
def pStr (op : BinOp) (a b : List UInt8) (K : Eff → Prop) : Prop :=
  match op with
  | .add => a.length + b.length ≤ 4611686018427387904 ∧ kv K (.d (.str (a ++ b)))
  | .eql => kb K (a == b)
  | .neq => kb K (!(a == b))
  | .lss => kb K (Op.bytesLess a b)
  | .leq => kb K (Op.bytesLess a b || a == b)
  | .gtr => kb K (!(Op.bytesLess a b || a == b))
  | .geq => kb K (!(Op.bytesLess a b))
  | _ => False
def kindEq : IntKind → IntKind → Bool
  | .i8, .i8 | .i16, .i16 | .i32, .i32 | .i64, .i64 | .u8, .u8 | .u16, .u16 | .u32, .u32 | .u64, .u64 => true
  | _, _ => false
theorem kindEq_spec {a b : IntKind} (h : kindEq a b = true) : a = b := by cases a <;> cases b <;> first | rfl | cases h
/-- Are cells the same (numbers, bools, strings)? -/
def eqD : D → D → Option Bool
  | .int k a, .int j b => bif kindEq k j then some (a == b) else none
  | .bool a, .bool b => some (a == b)
  | .str a, .str b => some (a == b)
  | _, _ => none
/-- Are two structs the same, field by field? -/
def eqRow (tt : TT) : List (Nat × TypeId) → List D → List D → Option Bool
  | [], _, _ => some true
  | (o, t) :: fs, xs, ys => match tt t with
    | some e => match e.kind, xs[o]?, ys[o]? with
      | .int _, some (.int k a), some (.int j b) => match kindEq k j, eqRow tt fs xs ys with
        | true, some r => some (a == b && r)
        | _, _ => none
      | .bool, some (.bool a), some (.bool b) => match eqRow tt fs xs ys with
        | some r => some (a == b && r)
        | _ => none
      | .str, some (.str a), some (.str b) => match eqRow tt fs xs ys with
        | some r => some (a == b && r)
        | _ => none
      | _, _, _ => none
    | none => none
def isShift : BinOp → Bool
  | .shl | .shr => true
  | _ => false
def pShift (op : BinOp) (k : IntKind) (a b : Int) (K : Eff → Prop) : Prop :=
  match op with
  | .shl => 0 ≤ b ∧ kv K (.d (.int k (k.wrap (a * 2 ^ (min b.toNat k.bits)))))
  | .shr => 0 ≤ b ∧ kv K (.d (.int k (a.fdiv (2 ^ (min b.toNat k.bits)))))
  | _ => False
def pBin (tt : TT) (op : BinOp) (t : TypeId) (X Y : V) (K : Eff → Prop) : Prop :=
  match X, Y with
  | .d (.int k a), .d (.int j b) => bif isShift op then pShift op k a b K else condP (kindEq k j) (pInt op k a b K)
  | .d (.str a), .d (.str b) => pStr op a b K
  | .d (.bool a), .d (.bool b) =>
    match tt t with
    | some e => match e.kind, op with
      | .bool, .eql => kb K (a == b)
      | .bool, .neq => kb K (!(a == b))
      | _, _ => False
    | none => False
  | .agg cs, .agg es =>
    match tt t with
    | some e => match e.cmp, e.kind, toDs cs, toDs es with
      | true, .struct fs, some xs, some ys => match eqRow tt fs xs ys, op with
        | some b, .eql => kb K b
        | some b, .neq => kb K (!b)
        | _, _ => False
      | _, _, _, _ => False
    | none => False
  | _, _ => False
theorem mk_list (s : List UInt8) : (ByteArray.mk s.toArray).toList = s := by
  rw [ByteArray.toList_eq]
theorem mkK_bool {d : TypeDesc} (h : mkK d = .bool) : d = .bool := by cases d <;> simp [mkK] at h; rfl
theorem mkK_int0 {d : TypeDesc} {k : IntKind} (h : mkK d = .int k) : d = .int k := by cases d <;> simp [mkK] at h; rw [h]
theorem mkK_str0 {d : TypeDesc} (h : mkK d = .str) : d = .string := by cases d <;> simp [mkK] at h; rfl
theorem eqRow_sem (htt : TTok P tt) {G : Imm} (w : World) (dp : Nat) {us vs : List Value} {xs ys : List D} (hx : ∀ (j : Nat) d, xs[j]? = some d → ∃ u, us[j]? = some u ∧ d.rep G u) (hy : ∀ (j : Nat) d, ys[j]? = some d → ∃ u, vs[j]? = some u ∧ d.rep G u) :
    ∀ (fs : List Field) (r : Bool), (∀ f ∈ fs, (f.name == "_") = false) → eqRow tt (fs.map fun f => (f.offset, f.type)) xs ys = some r → (Op.eqFields (dp + 1) us.toArray vs.toArray fs).run P w = .ok r w
  | [], r, _, h => by simp [eqRow] at h; subst h; rfl
  | f :: fs, r, hn, h => by
    have h1 : f.name ≠ "_" := by simpa using hn f (by simp)
    simp only [List.map_cons, eqRow] at h
    split at h
    · rename_i e he
      have hpart : ∀ (zs : List Value) z, e.kind.agg = false → zs[f.offset]? = some z → (part f.type zs.toArray f.offset).run P w = .ok z w := by
        intro zs z ha hz
        unfold part
        rw [Sem.run_bind, run_isAgg w htt he, ha]
        simp [hz]
      obtain ⟨i, d, g1, g2, _, _, g3, _⟩ := tt_get htt he
      have step : ∀ (u v : Value) (q s : Bool), e.kind.agg = false → us[f.offset]? = some u → vs[f.offset]? = some v → (Op.equalIn (dp + 1) f.type u v).run P w = .ok q w → eqRow tt (fs.map fun f => (f.offset, f.type)) xs ys = some s → (Op.eqFields (dp + 1) us.toArray vs.toArray (f :: fs)).run P w = .ok (q && s) w := by
        intro u v q s ha hu hv hq hs
        have ih := eqRow_sem htt w dp hx hy fs s (fun g hg => hn g (by simp [hg])) hs
        rw [Op.eqFields, if_pos h1]
        simp only [Sem.run_bind, hpart us u ha hu, hpart vs v ha hv, hq, Result.andThen_ok]
        cases q
        · simp
        · simpa using ih
      split at h
      · rename_i k' k a j b hk ha hb
        split at h
        · rename_i s hkj hs
          injection h with h; subst h
          obtain ⟨u, u1, u2⟩ := hx _ _ ha
          obtain ⟨v, v1, v2⟩ := hy _ _ hb
          replace u2 : u = _ := u2
          replace v2 : v = _ := v2
          have hkj := kindEq_spec hkj
          subst u2; subst v2; subst hkj
          rw [hk] at g3
          rw [mkK_int0 g3] at g2
          exact step _ _ _ _ (by rw [hk]; rfl) u1 v1 (run_equalIn_int w dp f.type k k' a b g2) hs
        · cases h
      · rename_i a b hk ha hb
        split at h
        · rename_i s hs
          injection h with h; subst h
          obtain ⟨u, u1, u2⟩ := hx _ _ ha
          obtain ⟨v, v1, v2⟩ := hy _ _ hb
          replace u2 : u = _ := u2
          replace v2 : v = _ := v2
          subst u2; subst v2
          rw [hk] at g3
          rw [mkK_bool g3] at g2
          exact step _ _ _ _ (by rw [hk]; rfl) u1 v1 (run_equalIn_bool w dp f.type a b g2) hs
        · cases h
      · rename_i a b hk ha hb
        split at h
        · rename_i s hs
          injection h with h; subst h
          obtain ⟨u, u1, u2⟩ := hx _ _ ha
          obtain ⟨v, v1, v2⟩ := hy _ _ hb
          replace u2 : u = _ := u2
          replace v2 : v = _ := v2
          subst u2; subst v2
          rw [hk] at g3
          rw [mkK_str0 g3] at g2
          have := run_equalIn_string (P := P) w dp f.type ⟨a.toArray⟩ ⟨b.toArray⟩ g2
          rw [mk_list, mk_list] at this
          exact step _ _ _ _ (by rw [hk]; rfl) u1 v1 this hs
        · cases h
      · cases h
    · cases h
theorem pBin_sem (htt : TTok P tt) {op : BinOp} {t u : TypeId} {x y : Operand} {X Y : V} (ho : o.op = .binOp op t x y u) (hx : ev ρ x = some X) (hy : ev ρ y = some Y) (h : pBin tt op t X Y K) : ∃ e, K e ∧ Tri P o ρ H e := by
  have hox : x ∈ o.op.operands := by rw [ho]; simp [Op.operands]
  have hoy : y ∈ o.op.operands := by rw [ho]; simp [Op.operands]
  have run : ∀ (a : Act) (w : World) (vx vy v : Value), a.eval x = vx → a.eval y = vy → (eqGuard op t x y vx vy).run P w = .ok () w → (binOp op t vx vy).run P w = .ok v w → (execOp a.eval o).run P w = .ok (.value v) w := by
    intro a w vx vy v e1 e2 e4 e3
    unfold execOp
    rw [ho]
    simp only [e1, e2]
    simp [e4, e3]
  have guard : ∀ (w : World) (vx vy : Value), (∀ c, vx ≠ .agg c) → vx ≠ .nilIface → (eqGuard op t x y vx vy).run P w = .ok () w := by
    intro w vx vy h1 h2
    cases vx <;> first | exact absurd rfl (h1 _) | exact absurd rfl h2 | (unfold eqGuard; split <;> rfl)
  unfold pBin at h
  split at h
  · rename_i k a j b
    have ints : ∀ (q : V), kv K q → (∀ (G : Imm) (φ : Loc) (w : World), ∃ v, (binOp op t (.int k a) (.int j b)).run P w = .ok v w ∧ q.rep G φ v) → ∃ e, K e ∧ Tri P o ρ H e := by
      intro q hk hq
      refine kv_sem hk fun A G w φ hi hr => ?_
      obtain ⟨v, h1, h2⟩ := hq G φ w
      have ex : A.eval x = .int k a := hr x _ hox hx
      have ey : A.eval y = .int j b := hr y _ hoy hy
      exact ⟨v, run A w _ _ v ex ey (guard w _ _ (fun c => by simp) (by simp)) h1, h2⟩
    cases hs : isShift op with
    | true =>
      rw [hs] at h
      cases op <;> first | cases hs; done | skip
      all_goals
        obtain ⟨h0, h⟩ := h
        refine ints _ h (fun G φ w => ⟨_, ?_, rfl⟩)
        have : ¬ b < 0 := by omega
        simp [binOp, Op.shift, this]
    | false =>
      rw [hs] at h
      obtain ⟨hkj, h'⟩ := condP_out h
      clear h
      have hkj := kindEq_spec hkj
      subst hkj
      have h := h'
      clear h'
      unfold pInt at h
      cases op <;> first | exact h.elim | cases hs; done | skip
      all_goals try (replace h := kb_out h)
      all_goals first
        | (obtain ⟨h0, h⟩ := h
           refine ints _ h (fun G φ w => ⟨_, ?_, rfl⟩)
           simp [binOp, Op.intDiv, h0]; done)
        | (refine ints _ h (fun G φ w => ⟨_, ?_, rfl⟩)
           simp [binOp, Op.intArith, Op.intCmp, Op.intBits, bits]; done)
  · rename_i a b
    have strs : ∀ (q : V), kv K q → (∀ (G : Imm) (φ : Loc) (w : World), ∃ v, (Op.stringOp op ⟨a.toArray⟩ ⟨b.toArray⟩).run P w = .ok v w ∧ q.rep G φ v) → (∀ w, (binOp op t (.string ⟨a.toArray⟩) (.string ⟨b.toArray⟩)).run P w = (Op.stringOp op ⟨a.toArray⟩ ⟨b.toArray⟩).run P w) → ∃ e, K e ∧ Tri P o ρ H e := by
      intro q hk hq hb
      refine kv_sem hk fun A G w φ hi hr => ?_
      obtain ⟨v, h1, h2⟩ := hq G φ w
      have ex : A.eval x = .string ⟨a.toArray⟩ := hr x _ hox hx
      have ey : A.eval y = .string ⟨b.toArray⟩ := hr y _ hoy hy
      exact ⟨v, run A w _ _ v ex ey (guard w _ _ (fun c => by simp) (by simp)) ((hb w).trans h1), h2⟩
    unfold pStr at h
    cases op <;> first | exact h.elim | skip
    case add =>
      obtain ⟨h0, h⟩ := h
      refine strs _ h (fun G φ w => ⟨.string (⟨a.toArray⟩ ++ ⟨b.toArray⟩), ?_, ?_⟩) (fun w => rfl)
      · have e1 : (ByteArray.mk a.toArray).size = a.length := by simp [ByteArray.size]
        have e2 : (ByteArray.mk b.toArray).size = b.length := by simp [ByteArray.size]
        have : ¬ (((ByteArray.mk a.toArray).size + (ByteArray.mk b.toArray).size : Nat) : Int) > IntKind.i64.max := by
          rw [e1, e2]
          have : IntKind.i64.max = 9223372036854775807 := by decide
          rw [this]; omega
        simp only [Op.stringOp]
        rw [if_neg this]; rfl
      · show _ = _
        congr 1
    all_goals
      replace h := kb_out h
      refine strs _ h (fun G φ w => ⟨_, rfl, ?_⟩) (fun w => rfl)
      show _ = _
      simp only [mk_list]
  · rename_i a b
    split at h
    · rename_i e he
      have bools : ∀ (q : V), kv K q → (∀ (G : Imm) (φ : Loc) (w : World), ∃ v, (binOp op t (.bool a) (.bool b)).run P w = .ok v w ∧ q.rep G φ v) → ∃ e, K e ∧ Tri P o ρ H e := by
        intro q hk hq
        refine kv_sem hk fun A G w φ hi hr => ?_
        obtain ⟨v, h1, h2⟩ := hq G φ w
        have ex : A.eval x = .bool a := hr x _ hox hx
        have ey : A.eval y = .bool b := hr y _ hoy hy
        exact ⟨v, run A w _ _ v ex ey (guard w _ _ (fun c => by simp) (by simp)) h1, h2⟩
      split at h
      · rename_i hk
        obtain ⟨i, d, h1, h2, _, _, h3, _⟩ := tt_get htt he
        rw [hk] at h3
        rw [mkK_bool h3] at h2
        exact bools _ (kb_out h) (fun G φ w => ⟨_, by simp [binOp, run_equal_bool w t a b h2], rfl⟩)
      · rename_i hk
        obtain ⟨i, d, h1, h2, _, _, h3, _⟩ := tt_get htt he
        rw [hk] at h3
        rw [mkK_bool h3] at h2
        exact bools _ (kb_out h) (fun G φ w => ⟨_, by simp [binOp, run_equal_bool w t a b h2], rfl⟩)
      · exact h.elim
    · exact h.elim
  · rename_i cs es
    split at h
    · rename_i e he
      split at h
      · rename_i fs xs ys hc hk hxs hys
        obtain ⟨gs, c1, c2, c3, c4, c5⟩ := tt_cmp htt he hc
        rw [c5] at hk
        injection hk with hk
        subst hk
        have main : ∀ (r : Bool), eqRow tt (gs.toList.map fun f => (f.offset, f.type)) xs ys = some r → ∀ (A : Act) (G : Imm) (w : World) (φ : Loc), OpRep o ρ A G φ → ∃ us vs : List Value, A.eval x = .agg us.toArray ∧ A.eval y = .agg vs.toArray ∧ (Op.equal t (.agg us.toArray) (.agg vs.toArray)).run P w = .ok r w := by
          intro r hr A G w φ hrr
          obtain ⟨us, e1, r1, _⟩ := hrr x _ hox hx
          obtain ⟨vs, e2, r2, _⟩ := hrr y _ hoy hy
          refine ⟨us, vs, e1, e2, ?_⟩
          have hf : P.fieldsOf t = gs := by simp [Program.fieldsOf, c1]
          have := run_equalIn_struct (P := P) w 9999 t us.toArray vs.toArray (by rw [hf]; exact c1) c3
          rw [hf] at this
          exact this.trans (eqRow_sem htt w 9998 (toDs_rep r1 hxs).2 (toDs_rep r2 hys).2 gs.toList r c2 hr)
        split at h
        · rename_i r hr
          refine kv_sem (kb_out h) fun A G w φ hi hrr => ?_
          obtain ⟨us, vs, e1, e2, e3⟩ := main r hr A G w φ hrr
          refine ⟨.bool r, run A w _ _ _ e1 e2 (run_eqGuard_agg w _ t x y us.toArray vs.toArray c4) ?_, rfl⟩
          simp [binOp, e3]
        · rename_i r hr
          refine kv_sem (kb_out h) fun A G w φ hi hrr => ?_
          obtain ⟨us, vs, e1, e2, e3⟩ := main r hr A G w φ hrr
          refine ⟨.bool (!r), run A w _ _ _ e1 e2 (run_eqGuard_agg w _ t x y us.toArray vs.toArray c4) ?_, rfl⟩
          simp [binOp, e3]
        · exact h.elim
      · exact h.elim
    · exact h.elim
  · exact h.elim

/-! ### one operand -/
def pUn (op : UnOp) (X : V) (K : Eff → Prop) : Prop :=
  match op, X with
  | .neg, .d (.int k n) => kv K (.d (.int k (k.wrap (0 - n))))
  | .not, .d (.bool b) => kb K (!b)
  | _, _ => False
theorem pUn_sem {op : UnOp} {t : TypeId} {x : Operand} {X : V} (ho : o.op = .unOp op t x) (hx : ev ρ x = some X) (h : pUn op X K) : ∃ e, K e ∧ Tri P o ρ H e := by
  have hox : x ∈ o.op.operands := by rw [ho]; simp [Op.operands]
  unfold pUn at h
  split at h
  · rename_i k n
    refine kv_sem h fun a G w φ hi hr => ⟨_, ?_, rfl⟩
    have ex : a.eval x = .int k n := hr x _ hox hx
    unfold execOp
    rw [ho]
    simp [ex, Op.unary, Op.intArith]
  · rename_i b
    refine kv_sem (kb_out h) fun a G w φ hi hr => ⟨_, ?_, rfl⟩
    have ex : a.eval x = .bool b := hr x _ hox hx
    unfold execOp
    rw [ho]
    simp [ex, Op.unary]
  · exact h.elim
def pConv (tt : TT) (s t : TypeId) (X : V) (K : Eff → Prop) : Prop :=
  match tt s, tt t with
  | some _, some e =>
    match e.kind, X with
    | .int k, .d (.int _ n) => kv K (.d (.int k (k.wrap n)))
    | .str, .d (.str s) => kv K (.d (.str s))
    | _, _ => False
  | _, _ => False
theorem mkK_int {d : TypeDesc} {k : IntKind} (h : mkK d = .int k) : d = .int k := by cases d <;> simp [mkK] at h; rw [h]
theorem mkK_str {d : TypeDesc} (h : mkK d = .str) : d = .string := by cases d <;> simp [mkK] at h; rfl
theorem mkK_slice {d : TypeDesc} {e : TypeId} (h : mkK d = .slice e) : d = .slice e := by cases d <;> simp [mkK] at h; rw [h]
theorem mkK_arr {d : TypeDesc} {n : Nat} {e : TypeId} (h : mkK d = .arr n e) : d = .array n e := by cases d <;> simp [mkK] at h; rw [h.1, h.2]
theorem mkK_struct {d : TypeDesc} {fs : List (Nat × TypeId)} (h : mkK d = .struct fs) : ∃ gs : Array Field, d = .struct gs ∧ gs.toList.map (fun f => (f.offset, f.type)) = fs := by cases d <;> simp [mkK] at h; exact ⟨_, rfl, h⟩
theorem pConv_sem (htt : TTok P tt) {s t : TypeId} {x : Operand} {X : V} (ho : o.op = .convert s t x) (hx : ev ρ x = some X) (h : pConv tt s t X K) : ∃ e, K e ∧ Tri P o ρ H e := by
  have hox : x ∈ o.op.operands := by rw [ho]; simp [Op.operands]
  unfold pConv at h
  split at h
  · rename_i e0 e hs0 he
    obtain ⟨i, d, h1, h2, _, _, h3, _⟩ := tt_get htt he
    obtain ⟨i0, d0, g1, g2, _, _, g3, _⟩ := tt_get htt hs0
    split at h
    · rename_i k j n hk
      rw [hk] at h3
      rw [mkK_int h3] at h2
      refine kv_sem h fun a G w φ hi hr => ⟨_, ?_, rfl⟩
      have ex : a.eval x = .int j n := hr x _ hox hx
      unfold execOp
      rw [ho]
      simp [ex, convert, run_underlying h2, run_underlying g2, Conv.intToInt]
    · rename_i l hk
      rw [hk] at h3
      rw [mkK_str h3] at h2
      refine kv_sem h fun a G w φ hi hr => ⟨.string ⟨l.toArray⟩, ?_, rfl⟩
      have ex : a.eval x = .string ⟨l.toArray⟩ := hr x _ hox hx
      unfold execOp
      rw [ho]
      simp [ex, convert, run_underlying h2, run_underlying g2]
    · exact h.elim
  · exact h.elim
def pNil (X : V) (K : Eff → Prop) : Prop :=
  match X with
  | .ptr i o => kv K (.ptr i o)
  | .iptr r => kv K (.iptr r)
  | .eptr i j o => kv K (.eptr i j o)
  | .fn (.func f) a b => kv K (.fn (.func f) a b)
  | _ => False
theorem pNil_sem {x : Operand} {X : V} (ho : o.op = .nilCheck x) (hx : ev ρ x = some X) (h : pNil X K) : ∃ e, K e ∧ Tri P o ρ H e := by
  have hox : x ∈ o.op.operands := by rw [ho]; simp [Op.operands]
  unfold pNil at h
  split at h
  · refine kv_sem h fun a G w φ hi hr => ?_
    have hrep := hr x _ hox hx
    obtain ⟨b, c, h1, h2⟩ := hrep
    exact ⟨_, by unfold execOp; rw [ho]; simp only [h2]; rfl, ⟨b, c, h1, rfl⟩⟩
  · refine kv_sem h fun a G w φ hi hr => ?_
    have hrep := hr x _ hox hx
    obtain ⟨b, c, h2, h1⟩ := hrep
    exact ⟨_, by unfold execOp; rw [ho]; simp only [h2]; rfl, ⟨b, c, rfl, h1⟩⟩
  · refine kv_sem h fun a G w φ hi hr => ?_
    have hrep := hr x _ hox hx
    obtain ⟨b, c, h1, h2⟩ := hrep
    exact ⟨_, by unfold execOp; rw [ho]; simp only [h2]; rfl, ⟨b, c, h1, rfl⟩⟩
  · refine kv_sem h fun a G w φ hi hr => ?_
    have hrep := hr x _ hox hx
    obtain ⟨us, vs, h2, h1, h3⟩ := hrep
    exact ⟨_, by unfold execOp; rw [ho]; simp only [h2]; rfl, ⟨us, vs, rfl, h1, h3⟩⟩
  · exact h.elim
theorem pFn_sem {f : Fn} {first captured : Array Operand} {xs ys : List V} (ho : o.op = .makeFunc f first captured) (hx : evs ρ first.toList = some xs) (hy : evs ρ captured.toList = some ys) (h : kv K (.fn f xs ys)) : ∃ e, K e ∧ Tri P o ρ H e := by
  have aux : ∀ (a : Act) (G : Imm) (φ : Loc) (os : List Operand) (zs : List V), (∀ x ∈ os, x ∈ o.op.operands) → OpRep o ρ a G φ → evs ρ os = some zs → repVs G φ zs (os.map a.eval) := by
    intro a G φ os
    induction os with
    | nil => intro zs _ _ hz; simp [evs] at hz; subst hz; rfl
    | cons x os ih =>
      intro zs hm hr hz
      unfold evs at hz
      split at hz
      · rename_i X hX
        split at hz
        · rename_i ws hws
          injection hz with hz; subst hz
          exact ⟨_, _, rfl, hr x X (hm x List.mem_cons_self) hX, ih ws (fun y hy => hm y (List.mem_cons_of_mem _ hy)) hr hws⟩
        · cases hz
      · cases hz
  refine kv_sem h fun a G w φ hi hr => ⟨.func f (first.map a.eval) (captured.map a.eval), by unfold execOp; rw [ho]; rfl, ⟨first.toList.map a.eval, captured.toList.map a.eval, ?_, aux a G φ _ _ (fun x hm => by rw [ho]; simp [Op.operands] at hm ⊢; exact .inl hm) hr hx, aux a G φ _ _ (fun x hm => by rw [ho]; simp [Op.operands] at hm ⊢; exact .inr hm) hr hy⟩⟩
  congr 1 <;> (apply Array.ext'; simp)
def pExt (X : V) (i : Nat) (K : Eff → Prop) : Prop :=
  match X with
  | .tup vs => match vs[i]? with
    | some x => kv K x
    | none => False
  | _ => False
theorem pExt_sem {x : Operand} {i : Nat} {X : V} (ho : o.op = .extract x i) (hx : ev ρ x = some X) (h : pExt X i K) : ∃ e, K e ∧ Tri P o ρ H e := by
  have hox : x ∈ o.op.operands := by rw [ho]; simp [Op.operands]
  unfold pExt at h
  split at h
  · split at h
    · rename_i vs y hy
      refine kv_sem h fun a G w φ hi hr => ?_
      have hrep := hr x _ hox hx
      obtain ⟨us, h1, h2⟩ := hrep
      obtain ⟨u, g1, g2⟩ := repVs_get h2 i y hy
      exact ⟨u, by unfold execOp; rw [ho]; simp [h1, Instr.extract, g1], g2⟩
    · exact h.elim
  · exact h.elim

/-! ### places and parts -/
def pFA (tt : TT) (s : TypeId) (X : V) (f : Nat) (K : Eff → Prop) : Prop :=
  match tt s with
  | none => False
  | some e =>
    match e.kind with
    | .struct fs =>
      match fs[f]? with
      | some (off, t) =>
        match tt t with
        | some e2 => condP (Nat.ble 1 e2.size) (match X with
          | .ptr i p => kv K (.ptr i (p + off))
          | .iptr r => kv K (.iptr (r.drop off))
          | .eptr i j p => kv K (.eptr i j (p + off))
          | _ => False)
        | none => False
      | none => False
    | _ => False
theorem pFA_sem (htt : TTok P tt) {s : TypeId} {x : Operand} {f : Nat} {X : V} (ho : o.op = .fieldAddr s x f) (hx : ev ρ x = some X) (h : pFA tt s X f K) : ∃ e, K e ∧ Tri P o ρ H e := by
  have hox : x ∈ o.op.operands := by rw [ho]; simp [Op.operands]
  unfold pFA at h
  split at h
  · exact h.elim
  rename_i e he
  split at h
  · rename_i fs hk
    split at h
    · rename_i off t hf
      split at h
      · rename_i e2 he2
        obtain ⟨hc, h⟩ := condP_out h
        have hc := Nat.le_of_ble_eq_true hc
        obtain ⟨i, d, h1, h2, _, _, h3, _⟩ := tt_get htt he
        rw [hk] at h3
        obtain ⟨gs, rfl, hgs⟩ := mkK_struct h3
        have hfield : ∃ g : Field, gs[f]? = some g ∧ g.offset = off ∧ g.type = t := by
          rw [← hgs, List.getElem?_map] at hf
          cases hg : gs.toList[f]? with
          | none => rw [hg] at hf; cases hf
          | some g =>
            rw [hg] at hf
            simp at hf
            exact ⟨g, by simpa using hg, hf.1, hf.2⟩
        obtain ⟨g, hg, rfl, rfl⟩ := hfield
        have run : ∀ (a : Act) (b p : Nat) (w : World), a.eval x = .pointer (some ⟨b, p, none⟩) → (execOp a.eval o).run P w = .ok (.value (.pointer (some ⟨b, p + g.offset, none⟩))) w := by
          intro a b p w e1
          unfold execOp
          rw [ho]
          have : ¬ e2.size = 0 := by omega
          simp [Instr.fieldAt, run_underlying h2, hg, e1, Instr.sureAddr, fieldPlace, run_sizeOf w htt he2, this, add_lit]
        split at h
        · refine kv_sem h fun a G w φ hi hr => ?_
          obtain ⟨b, c, k1, k2⟩ := hr x _ hox hx
          exact ⟨_, run a b _ w k2, ⟨b, c, k1, rfl⟩⟩
        · refine kv_sem h fun a G w φ hi hr => ?_
          obtain ⟨b, p, k1, k2⟩ := hr x _ hox hx
          exact ⟨_, run a b _ w k1, ⟨b, _, rfl, repRow_drop k2 _⟩⟩
        · refine kv_sem h fun a G w φ hi hr => ?_
          obtain ⟨b, c, k1, k2⟩ := hr x _ hox hx
          exact ⟨_, run a b _ w k2, ⟨b, c, k1, by rw [Nat.add_assoc]⟩⟩
        · exact h.elim
      · exact h.elim
    · exact h.elim
  · exact h.elim
/-- A part of a struct's or an array's value. -/
def pPart (tt : TT) (t : TypeId) (cs : List V) (off : Nat) (K : Eff → Prop) : Prop :=
  match tt t with
  | some e =>
    match e.kind.agg with
    | true => kv K (.agg ((cs.drop off).take e.size))
    | false => match cs[off]? with
      | some x => kv K x
      | none => False
  | none => False
theorem pPart_sem (htt : TTok P tt) {t : TypeId} {cs : List V} {off : Nat} (h : pPart tt t cs off K) (k : ∀ (a : Act) (G : Imm) (w : World) (φ : Loc), Inv G w → OpRep o ρ a G φ → ∃ us : List Value, repVs G φ cs us ∧ (∀ u ∈ us, u.oneCell' = true) ∧ ∀ v, (part t us.toArray off).run P w = .ok v w → (execOp a.eval o).run P w = .ok (.value v) w) : ∃ e, K e ∧ Tri P o ρ H e := by
  unfold pPart at h
  split at h
  · rename_i e he
    split at h
    · rename_i hagg
      refine kv_sem h fun a G w φ hi hr => ?_
      obtain ⟨us, h1, h2, h3⟩ := k a G w φ hi hr
      refine ⟨.agg ((us.drop off).take e.size).toArray, h3 _ ?_, ⟨_, rfl, repVs_take (repVs_drop h1 _) _, fun u hu => h2 u (List.mem_of_mem_drop (List.mem_of_mem_take hu))⟩⟩
      unfold part
      rw [Sem.run_bind, run_isAgg w htt he, hagg]
      simp [run_sizeOf w htt he, List.drop_take, Nat.add_sub_cancel_left]
    · rename_i hagg
      split at h
      · rename_i y hy
        refine kv_sem h fun a G w φ hi hr => ?_
        obtain ⟨us, h1, h2, h3⟩ := k a G w φ hi hr
        obtain ⟨u, g1, g2⟩ := repVs_get h1 off y hy
        refine ⟨u, h3 _ ?_, g2⟩
        unfold part
        rw [Sem.run_bind, run_isAgg w htt he, hagg]
        simp [g1]
      · exact h.elim
  · exact h.elim
def pField (tt : TT) (s : TypeId) (X : V) (f : Nat) (K : Eff → Prop) : Prop :=
  match tt s, X with
  | some e, .agg cs =>
    match e.kind with
    | .struct fs => match fs[f]? with
      | some (off, t) => pPart tt t cs off K
      | none => False
    | _ => False
  | _, _ => False
theorem pField_sem (htt : TTok P tt) {s : TypeId} {x : Operand} {f : Nat} {X : V} (ho : o.op = .field s x f) (hx : ev ρ x = some X) (h : pField tt s X f K) : ∃ e, K e ∧ Tri P o ρ H e := by
  have hox : x ∈ o.op.operands := by rw [ho]; simp [Op.operands]
  unfold pField at h
  split at h
  · rename_i e cs he
    split at h
    · rename_i fs hk
      split at h
      · rename_i off t hf
        obtain ⟨i, d, h1, h2, _, _, h3, _⟩ := tt_get htt he
        rw [hk] at h3
        obtain ⟨gs, rfl, hgs⟩ := mkK_struct h3
        have hfield : ∃ g : Field, gs[f]? = some g ∧ g.offset = off ∧ g.type = t := by
          rw [← hgs, List.getElem?_map] at hf
          cases hg : gs.toList[f]? with
          | none => rw [hg] at hf; cases hf
          | some g =>
            rw [hg] at hf
            simp at hf
            exact ⟨g, by simpa using hg, hf.1, hf.2⟩
        obtain ⟨g, hg, rfl, rfl⟩ := hfield
        refine pPart_sem htt h fun a G w φ hi hr => ?_
        obtain ⟨us, k1, k2, k3⟩ := hr x _ hox hx
        refine ⟨us, k2, k3, fun v hv => ?_⟩
        unfold execOp
        rw [ho]
        simp [Instr.field, run_underlying h2, hg, k1, asAgg, hv]
      · exact h.elim
    · exact h.elim
  · exact h.elim
end
end Go.Proofs.Ytlafnhpmhflnaaa.Q
