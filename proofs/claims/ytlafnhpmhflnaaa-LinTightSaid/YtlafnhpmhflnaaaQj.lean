/- Slices made and appended to. No condition. -/
import Derived.Test.YtlafnhpmhflnaaaQi
set_option linter.unusedVariables false
set_option linter.unusedSectionVars false
set_option linter.unnecessarySimpa false
set_option linter.unusedSimpArgs false
namespace Go.Proofs.Ytlafnhpmhflnaaa.Q
variable [Amb]
section
variable {P : Program} {tt : TT} {o : Oper} {ρ : Env} {H : List Ob} {K : Eff → Prop}

def isZero : Operand → Bool
  | .const (.int _ n) => n == 0
  | _ => false
def pMake (tt : TT) (t : TypeId) (grow : Bool) (X Y : V) (H : List Ob) (K : Eff → Prop) : Prop :=
  match tt t, X, Y with
  | some e, .d (.int _ l), .d (.int _ c) =>
    match e.kind with
    | .slice el => match tt el with
      | some te => match te.zero with
        | some z => match toDs z.cells with
          | some zr => condP (z.cellB && Nat.beq zr.length te.size && Nat.ble te.bytes 65536) ((0 ≤ l ∧ l ≤ c ∧ c ≤ 1073741824) ∧ match grow with
            | true => l = 0 ∧ K ⟨.gsl [] H.length, [], [], [.tip te.size 0]⟩
            | false => l = c ∧ K ⟨.arr H.length 0 l.toNat, [], [], [.parr te.size (List.replicate l.toNat zr)]⟩)
          | none => False
        | none => False
      | none => False
    | _ => False
  | _, _, _ => False
theorem pMake_sem (htt : TTok P tt) {t : TypeId} {x y : Operand} {X Y : V} {g : Bool} (ho : o.op = .makeSlice t x y) (hx : ev ρ x = some X) (hy : ev ρ y = some Y) (h : pMake tt t g X Y H K) : ∃ e, K e ∧ Tri P o ρ H e := by
  have hox : x ∈ o.op.operands := by rw [ho]; simp [Op.operands]
  have hoy : y ∈ o.op.operands := by rw [ho]; simp [Op.operands]
  unfold pMake at h
  split at h
  · rename_i e kl l kc c he
    obtain ⟨ti, d, h1, h2, _, _, h3, _⟩ := tt_get htt he
    split at h
    · rename_i el hk
      rw [hk] at h3; rw [mkK_slice h3] at h2
      split at h
      · rename_i te hte
        obtain ⟨i, d', i1, i2, i3, i4, _, i5⟩ := tt_get htt hte
        split at h
        · rename_i z hz
          rw [hz, Option.bind_eq_some_iff] at i5
          obtain ⟨v, hv, hvz⟩ := i5
          split at h
          · rename_i zr hzr
            obtain ⟨hc, ⟨l0, lc, cb⟩, h'⟩ := condP_out h
            clear h
            simp only [Bool.and_eq_true] at hc
            obtain ⟨⟨c0, c1⟩, c2⟩ := hc
            have c1 := Nat.eq_of_beq_eq_true c1
            have c2 := Nat.le_of_ble_eq_true c2
            have hbytes : (i.bytes : Int) * c ≤ 281474976710656 := by
              rw [i4]
              have h1 : (te.bytes : Int) * c ≤ 65536 * c := Int.mul_le_mul_of_nonneg_right (by omega) (by omega)
              omega
            have run : ∀ (a : Act) (G : Imm) (w : World) (φ : Loc), OpRep o ρ a G φ → (execOp a.eval o).run P w = .ok (.value (.slice (some ⟨w.heap.size, 0, none⟩) l.toNat c.toNat)) (w.alloc (.cells (madeCells v.cells (c.toNat * te.size)) el)) := by
              intro a G w φ hr
              have ex : a.eval x = .int kl l := hr x _ hox hx
              have ey : a.eval y = .int kc c := hr y _ hoy hy
              unfold execOp
              rw [ho]
              have := run_make (P := P) w t el i v h2 i1 hv kl kc l c l0 lc hbytes (by omega)
              rw [i3] at this
              simp [ex, ey, this]
            split at h'
            · obtain ⟨hl, hfin⟩ := h'
              subst hl
              refine ⟨_, hfin, ⟨by simp, by simp, fun a G w φ Hx K Q hs hr ha hf hK => ?_⟩⟩
              have hn : Hx H.length = none := hf _ (Nat.le_refl _) (by simp)
              have hst := hs.add H.length 0 c.toNat (.tip te.size 0) (.cells (madeCells v.cells (c.toNat * te.size)) el) hn
                ⟨some (w.heap.size, 0), c.toNat, setLoc_same _ _ _ _, Nat.zero_le _, fun m hm => by
                  unfold setLoc
                  rw [if_neg (by omega)]
                  exact hs.un _ hn m, fun _ => ⟨w.heap.size, 0, _, el, (0, 0), rfl, heap_new w _, by rw [size_madeCells]; omega, fun j _ => hs.inv.fresh (Nat.le_refl _) j, Nat.zero_le _⟩⟩
                (fun b hb => by
                  simp only [Owns, own, setLoc_same] at hb
                  split at hb
                  · injection hb with hb; exact hb.symm
                  · cases hb)
              rw [upd_new] at hK
              unfold Oper.wp
              rw [run a G w φ hr, Oper.upon_value]
              refine hK _ _ _ _ hst.1 hst.2 ⟨some (w.heap.size, 0), c.toNat, setLoc_same _ _ _ _, rfl, Nat.zero_le _, by simp⟩
            · obtain ⟨hl, hfin⟩ := h'
              subst hl
              refine ⟨_, hfin, ⟨by simp, by simp, fun a G w φ Hx K Q hs hr ha hf hK => ?_⟩⟩
              have hn : Hx H.length = none := hf _ (Nat.le_refl _) (by simp)
              obtain ⟨r1, r2⟩ := V.cells_rep' (ofConst_rep hvz G φ) c0
              obtain ⟨d1, d2⟩ := toDs_rep r1 hzr
              have hvs : v.cells.size = zr.length := by
                have := repVs_len r1
                simp at this; omega
              have hz0 := zeros_rows (G := G) hvs d2 l.toNat
              rw [c1] at hz0
              have hst := hs.add H.length 0 te.size (.parr te.size (List.replicate l.toNat zr)) (.cells (madeCells v.cells (l.toNat * te.size)).toList.toArray el) hn
                ⟨w.heap.size, el, _, setLoc_same _ _ _ _, heap_new w _, hz0.1, hz0.2, hs.inv.fresh (Nat.le_refl _)⟩
                (fun b hb => by simp [Owns, own, setLoc_same] at hb; exact hb.symm)
              rw [upd_new] at hK
              unfold Oper.wp
              rw [run a G w φ hr, Oper.upon_value]
              refine hK _ _ _ _ (by simpa using hst.1) (by simpa using hst.2) ⟨w.heap.size, te.size, setLoc_same _ _ _ _, l.toNat, Nat.le_refl _, by simp⟩
          · exact h.elim
        · exact h.elim
      · exact h.elim
    · exact h.elim
  · exact h.elim

/-! ### append -/
section
variable (w : World)
theorem run_app_same (t t2 ty el : TypeId) (d2 : TypeDesc) (i : TypeInfo) (ht : P.underlying t = some (.slice el)) (h2 : P.underlying t2 = some d2) (hd : (∃ e, d2 = .slice e) ∨ d2 = .string) (hi : P.info? el = some i)
    (A : Option Addr) (n c : Nat) (x : Value) (hm : (Builtin.lenOf x).run P w = .ok 0 w) (hf : (Builtin.firstCells i.size 0 x).run P w = .ok #[] w) (hnc : n ≤ c) :
    (Builtin.append_ #[t, t2] ty #[.slice A n c, x]).run P w = .ok (.slice A n c) w := by
  rcases hd with ⟨e2, rfl⟩ | rfl
  all_goals (cases A <;> simp [Builtin.append_, run_underlying ht, run_underlying h2, sizeOf, typeInfo, hi, hm, hf, hnc, storeCells])
theorem run_app_room (t t2 ty el : TypeId) (d2 : TypeDesc) (i : TypeInfo) (ht : P.underlying t = some (.slice el)) (h2 : P.underlying t2 = some d2) (hd : (∃ e, d2 = .slice e) ∨ d2 = .string) (hi : P.info? el = some i)
    (b p n c m : Nat) (x : Value) (news : List Value) (w' : World) (hm : (Builtin.lenOf x).run P w = .ok m w) (hf : (Builtin.firstCells i.size m x).run P w = .ok news.toArray w) (hnc : n + m ≤ c)
    (hst : (storeCells ⟨b, p + n * i.size, none⟩ news).run P w = .ok () w') :
    (Builtin.append_ #[t, t2] ty #[.slice (some ⟨b, p, none⟩) n c, x]).run P w = .ok (.slice (some ⟨b, p, none⟩) (n + m) c) w' := by
  rcases hd with ⟨e2, rfl⟩ | rfl
  all_goals simp [Builtin.append_, run_underlying ht, run_underlying h2, sizeOf, typeInfo, hi, hm, hf, hnc, add_lit, hst]
theorem run_app_grow (t t2 ty el : TypeId) (d2 : TypeDesc) (i : TypeInfo) (z : Value) (ht : P.underlying t = some (.slice el)) (h2 : P.underlying t2 = some d2) (hd : (∃ e, d2 = .slice e) ∨ d2 = .string) (hi : P.info? el = some i) (hz : i.zero = some z)
    (A : Option Addr) (n c m : Nat) (x : Value) (olds news : List Value) (hm : (Builtin.lenOf x).run P w = .ok m w) (hf : (Builtin.firstCells i.size m x).run P w.drew = .ok news.toArray w.drew)
    (ho : (Builtin.firstCells i.size n (.slice A n c)).run P w.drew = .ok olds.toArray w.drew) (hnc : c < n + m) (h63 : n + m ≤ 9223372036854775807) (hfit : Builtin.nextslicecap (n + m) c * i.bytes ≤ 281474976710656) :
    (Builtin.append_ #[t, t2] ty #[.slice A n c, x]).run P w = .ok (.slice (some ⟨w.heap.size, 0, none⟩) (n + m) (grownCap w (n + m) c el)) (w.drew.alloc (.cells (olds ++ news ++ (Builtin.zeroCells z.cells (grownCap w (n + m) c el - (n + m))).toList).toArray el)) := by
  have hn : ¬ (n + m ≤ c) := by omega
  have h63' : ¬ (9223372036854775807 < ((n : Int) + (m : Int))) := by omega
  have h48' : ¬ (281474976710656 < Builtin.nextslicecap (n + m) c * i.bytes) := by omega
  rcases hd with ⟨e2, rfl⟩ | rfl
  all_goals
    simp [Builtin.append_, run_underlying ht, run_underlying h2, sizeOf, typeInfo, zeroValue, hi, hz, hm, hn, h63', h48', Question.forced, hf, ho, newRow, grownCap]
    congr 2
    apply Array.ext'
    simp
end

def RL (rows : List (List D)) (n : Nat) : Prop := ∀ r ∈ rows, r.length = n
def rowsX (tt : TT) (t : TypeId) : V → Option (List (List D))
  | .d (.sl rows) => match tt t with
    | some e => match e.kind with
      | .slice _ => some rows
      | _ => none
    | none => none
  | .fsl rows => match tt t with
    | some e => match e.kind with
      | .slice _ => some rows
      | _ => none
    | none => none
  | .gsl rows _ => match tt t with
    | some e => match e.kind with
      | .slice _ => some rows
      | _ => none
    | none => none
  | .d (.str s) => match tt t with
    | some e => match e.kind with
      | .str => some (s.map fun c => [.int .u8 c.toNat])
      | _ => none
    | none => none
  | _ => none
/-- What is appended: its cells can be read. -/
theorem rowsX_run (htt : TTok P tt) {t2 : TypeId} {X : V} {rows : List (List D)} {e : Nat} (h : rowsX tt t2 X = some rows) (hl : RL rows e) {G : Imm} {φ : Loc} {v : Value} (hr : X.rep G φ v) (w : World) (hi : Inv G w) :
    ∃ d2, P.underlying t2 = some d2 ∧ ((∃ e, d2 = .slice e) ∨ d2 = .string) ∧ (Builtin.lenOf v).run P w = .ok rows.length w ∧ ∃ news, RowsIn G news e rows ∧ (Builtin.firstCells e rows.length v).run P w = .ok news.toArray w := by
  have sl : ∀ (te : TE) (el : TypeId) (A : Option Addr) (c : Nat), tt t2 = some te → te.kind = .slice el → v = .slice A rows.length c → (rows ≠ [] → ∃ b o e, A = some ⟨b, o, none⟩ ∧ repRows G b o e rows) → ∃ d2, P.underlying t2 = some d2 ∧ ((∃ e, d2 = .slice e) ∨ d2 = .string) ∧ (Builtin.lenOf v).run P w = .ok rows.length w ∧ ∃ news, RowsIn G news e rows ∧ (Builtin.firstCells e rows.length v).run P w = .ok news.toArray w := by
    intro te el A c hte hk hv hrows
    obtain ⟨ti, d, _, h2, _, _, h3, _⟩ := tt_get htt hte
    rw [hk] at h3; rw [mkK_slice h3] at h2
    refine ⟨_, h2, .inl ⟨_, rfl⟩, by rw [hv]; rfl, ?_⟩
    by_cases hn : rows = []
    · subst hn
      refine ⟨[], ⟨by simp, by simp⟩, ?_⟩
      rw [hv]
      cases A with
      | none => rfl
      | some p => simp [Builtin.firstCells, loadCells, loadCellsFrom]
    · obtain ⟨b, p, e', rfl, hrr⟩ := hrows hn
      have he : e' = e := by
        obtain ⟨r, hr⟩ := List.exists_mem_of_ne_nil rows hn
        rw [← repRows_len hrr r hr, hl r hr]
      subst he
      have key : ∀ (qs : List (List D)) (p : Nat), repRows G b p e' qs → ∃ news : List Value, RowsIn G news e' qs ∧ ∀ (j : Nat) u, news[j]? = some u → G b (p + j) = some u := by
        intro qs
        induction qs with
        | nil => exact fun p _ => ⟨[], ⟨by simp, by simp⟩, by simp⟩
        | cons r qs ih =>
          intro p hq
          obtain ⟨g1, g2, g3⟩ := hq
          obtain ⟨ns, n1, n2⟩ := ih (p + e') g3
          obtain ⟨us, u1, u2, u3, u4⟩ := repRow_cells g2
          have hr1 : RowsIn G us e' [r] := ⟨by rw [u1]; simp [g1], fun i r' hi => by
            cases i with
            | zero => simp at hi; subst hi; exact ⟨g1, fun j d hj => by simpa using u2 j d hj⟩
            | succ i => simp at hi⟩
          refine ⟨us ++ ns, by simpa using hr1.append n1, fun j u hj => ?_⟩
          rw [List.getElem?_append] at hj
          split at hj
          · exact u3 j u hj
          · rename_i hge
            have := n2 _ u hj
            rwa [show p + e' + (j - us.length) = p + j by omega] at this
      obtain ⟨news, n1, n2⟩ := key rows p hrr
      refine ⟨news, n1, ?_⟩
      rw [hv]
      exact run_firstCells_some (P := P) w e' rows.length ⟨b, p, none⟩ rows.length c news (by rw [n1.1]) (fun j u hj => by rw [add_lit]; exact hi _ _ _ (n2 j u hj))
  unfold rowsX at h
  split at h
  · split at h
    · rename_i te hte
      split at h
      · rename_i el hk
        injection h with h; subst h
        obtain ⟨A, c, e1, e2, e3⟩ := hr
        exact sl te el A c hte hk e1 e3
      · cases h
    · cases h
  · split at h
    · rename_i te hte
      split at h
      · rename_i el hk
        injection h with h; subst h
        obtain ⟨A, e1, e3⟩ := hr
        exact sl te el (Addr0 A) _ hte hk e1 (a0 e3)
      · cases h
    · cases h
  · split at h
    · rename_i te hte
      split at h
      · rename_i el hk
        injection h with h; subst h
        obtain ⟨A, c, _, e1, e2, e3⟩ := hr
        exact sl te el (Addr0 A) c hte hk e1 (a0 e3)
      · cases h
    · cases h
  · rename_i s
    split at h
    · rename_i te hte
      split at h
      · rename_i hk
        injection h with h; subst h
        obtain ⟨ti, d, _, h2, _, _, h3, _⟩ := tt_get htt hte
        rw [hk] at h3; rw [mkK_str h3] at h2
        have hv : v = .string ⟨s.toArray⟩ := hr
        have hsz : (ByteArray.mk s.toArray).size = s.length := by simp [ByteArray.size]
        have he1 : s ≠ [] → e = 1 := fun hne => by
          cases s with
          | nil => exact absurd rfl hne
          | cons c s => exact (hl [.int .u8 c.toNat] (by simp)).symm
        have hlen : (s.map (fun c => Value.int .u8 c.toNat)).length = (s.map fun c => [D.int .u8 c.toNat]).length * e := by
          by_cases hne : s = []
          · subst hne; simp
          · rw [he1 hne]; simp
        refine ⟨_, h2, .inr rfl, by rw [hv]; simp [Builtin.lenOf, hsz], s.map (fun c => Value.int .u8 c.toNat), ⟨hlen, fun i r hi => ?_⟩, ?_⟩
        · rw [List.getElem?_map] at hi
          cases hc : s[i]? with
          | none => rw [hc] at hi; cases hi
          | some c =>
            rw [hc] at hi
            injection hi with hi; subst hi
            have he := he1 (fun hn => by rw [hn] at hc; cases hc)
            subst he
            refine ⟨rfl, fun j d hj => ?_⟩
            cases j with
            | zero => simp at hj; subst hj; exact ⟨.int .u8 c.toNat, by simp [hc], rfl⟩
            | succ j => simp at hj
        · rw [hv]
          have : ((ByteArray.mk s.toArray).extract 0 s.length) = ByteArray.mk s.toArray := by
            apply Go.WideShapes.bytes_inj
            rw [Lib.extract_data]
            simp
          simp [Builtin.firstCells, this]
      · cases h
    · cases h
  · cases h

def pApp (tt : TT) (t t2 : TypeId) (X Y : V) (H : List Ob) (K : Eff → Prop) : Prop :=
  match tt t, rowsX tt t2 Y with
  | some e, some qs =>
    match e.kind with
    | .slice el => match tt el with
      | some te => match te.zero with
        | some z => condP (z.cellB && Nat.beq z.cells.length te.size && Nat.ble te.bytes 65536) (match X with
          | .fsl rows => (RL rows te.size ∧ RL qs te.size ∧ (rows ++ qs).length ≤ 1073741824) ∧ K ⟨.gsl (rows ++ qs) H.length, [], [], [.tip te.size (rows ++ qs).length]⟩
          | .gsl rows q => match H[q]? with
            | some (.tip esz n) => condP (Nat.beq esz te.size) ((n = rows.length ∧ RL rows te.size ∧ RL qs te.size ∧ (rows ++ qs).length ≤ 1073741824) ∧ K ⟨.gsl (rows ++ qs) q, [], [(q, .tip esz (rows ++ qs).length)], []⟩)
            | _ => False
          | _ => False)
        | none => False
      | none => False
    | _ => False
  | _, _ => False
theorem RowsIn.of_repRows {G : Imm} {b o e : Nat} {rows : List (List D)} (h : repRows G b o e rows) : ∃ us, RowsIn G us e rows ∧ ∀ (j : Nat) u, us[j]? = some u → G b (o + j) = some u := by
  induction rows generalizing o with
  | nil => exact ⟨[], ⟨by simp, by simp⟩, by simp⟩
  | cons r qs ih =>
    obtain ⟨g1, g2, g3⟩ := h
    obtain ⟨ns, n1, n2⟩ := ih g3
    obtain ⟨us, u1, u2, u3, u4⟩ := repRow_cells g2
    have hr1 : RowsIn G us e [r] := ⟨by rw [u1]; simp [g1], fun i r' hi => by
      cases i with
      | zero => simp at hi; subst hi; exact ⟨g1, fun j d hj => by simpa using u2 j d hj⟩
      | succ i => simp at hi⟩
    refine ⟨us ++ ns, by simpa using hr1.append n1, fun j u hj => ?_⟩
    rw [List.getElem?_append] at hj
    split at hj
    · exact u3 j u hj
    · rename_i hge
      have := n2 _ u hj
      rwa [show o + e + (j - us.length) = o + j by omega] at this
/-- The cells of a slice that is known. -/
theorem sl_cells {G : Imm} {w : World} (hi : Inv G w) {A : Option (Nat × Nat)} {rows : List (List D)} {e c : Nat} (hl : RL rows e) (h : rows ≠ [] → ∃ b o e, A = some (b, o) ∧ repRows G b o e rows) :
    ∃ olds, RowsIn G olds e rows ∧ (Builtin.firstCells e rows.length (.slice (Addr0 A) rows.length c)).run P w = .ok olds.toArray w := by
  by_cases hn : rows = []
  · subst hn
    refine ⟨[], ⟨by simp, by simp⟩, ?_⟩
    cases A with
    | none => rfl
    | some p => simp [Builtin.firstCells, Addr0, loadCells, loadCellsFrom]
  · obtain ⟨b, p, e', rfl, hrr⟩ := h hn
    have he : e' = e := by
      obtain ⟨r, hr⟩ := List.exists_mem_of_ne_nil rows hn
      rw [← repRows_len hrr r hr, hl r hr]
    subst he
    obtain ⟨us, u1, u2⟩ := RowsIn.of_repRows hrr
    exact ⟨us, u1, run_firstCells_some (P := P) w e' rows.length ⟨b, p, none⟩ rows.length c us (by rw [u1.1]) (fun j u hj => by rw [add_lit]; exact hi _ _ _ (u2 j u hj))⟩
/-- What a slice becomes that outgrows its room: a new block. -/
theorem Sit.grow {G : Imm} {w : World} {φ : Loc} {Hx : Hp} (hs : Sit G w φ Hx) (q : Nat) (e n c : Nat) (us zs : List Value) (rows : List (List D)) (T : TypeId) (hrows : RowsIn G us e rows) (hn : n = rows.length) (hc : n ≤ c) (hz : zs.length = (c - n) * e)
    (hq : ∀ m, n ≤ m → φ q m = none) (ho : ∀ ob b, Hx q = some ob → Owns φ q ob b → True) :
    Sit (addBlk G w.heap.size us) (w.alloc (.cells (us ++ zs).toArray T)) (setLoc φ q n (some (w.heap.size, 0), c)) (fun i => if i = q then some (.tip e n) else Hx i) ∧
    Goes G w φ Hx (addBlk G w.heap.size us) (w.alloc (.cells (us ++ zs).toArray T)) (setLoc φ q n (some (w.heap.size, 0), c)) (fun i => if i = q then some (.tip e n) else Hx i) ∧
    (V.gsl rows q).rep (addBlk G w.heap.size us) (setLoc φ q n (some (w.heap.size, 0), c)) (.slice (some ⟨w.heap.size, 0, none⟩) n c) := by
  have hfresh := hs.inv.fresh (Nat.le_refl _)
  have hst := hs.step (G' := addBlk G w.heap.size us) (w' := w.alloc (.cells (us ++ zs).toArray T)) (φ' := setLoc φ q n (some (w.heap.size, 0), c)) (H' := fun i => if i = q then some (.tip e n) else Hx i) (fun i => i = q) (addBlk_le hfresh us) (setLoc_le (hq n (Nat.le_refl _))) (fun i hi m => setLoc_ne hi) rfl rfl rfl (by simp)
    (fun b hb _ => ⟨heap_old w _ hb, fun o => by unfold addBlk; rw [if_neg (by omega)]⟩) (fun i hi => if_neg hi) (hs.inv.addBlk us zs T)
    (fun i ob hi h1 => by
      subst hi; simp at h1; subst h1
      refine ⟨some (w.heap.size, 0), c, setLoc_same _ _ _ _, hc, fun m hm => ?_, fun hlt => ⟨w.heap.size, 0, _, T, (0, 0), rfl, heap_new w _, ?_, fun j hj => ?_, Nat.zero_le _⟩⟩
      · unfold setLoc; rw [if_neg (by omega)]; exact hq m (by omega)
      · have h1 := hrows.1
        have : c * e = n * e + (c - n) * e := by rw [← Nat.add_mul]; congr 1; omega
        rw [hn] at this hz
        simp only [List.size_toArray, List.length_append]
        rw [hn] at *
        omega
      · unfold addBlk
        rw [if_pos rfl, List.getElem?_eq_none]
        rw [hrows.1, ← hn]; omega)
    (fun i j ob1 ob2 b hi hj hij => absurd (hi.trans hj.symm) hij)
    (fun i ob b hi h1 h2 => by
      subst hi; simp at h1; subst h1
      simp only [Owns, own, setLoc_same] at h2
      split at h2
      · injection h2 with h2; exact .inr (Nat.le_of_eq h2)
      · cases h2)
    (fun i hi h1 => by subst hi; simp at h1)
  refine ⟨hst.1, hst.2, some (w.heap.size, 0), c, by rw [← hn]; exact setLoc_same _ _ _ _, by rw [hn]; rfl, by omega, fun _ => ⟨w.heap.size, 0, e, rfl, hrows.rows (addBlk_le hfresh us) fun j u hj => ?_⟩⟩
  unfold addBlk
  rw [if_pos rfl, Nat.zero_add]; exact hj
theorem upd_tip (Hx : Hp) (base : Nat) (x : V) (ob : Ob) : upd Hx base ⟨x, [], [], [ob]⟩ = fun i => if i = base then some ob else Hx i := upd_new Hx base x [] ob
end
end Go.Proofs.Ytlafnhpmhflnaaa.Q
