/- A local heap of pure values in the world, and what single operations do there. No condition. -/
import Derived.Orders
import Derived.Tactics
import Derived.Laws.AppendOwn
import Derived.Laws.Cells
import Derived.Below
import Derived.CallsIn
import Derived.Lib.FrozenHead
import Derived.Lib.UnsafeStr
import Derived.Laws.MakeOwn
import Derived.Laws.Strings
import Derived.Laws.StructEq
import Derived.Lib.SmallJoins
import Derived.Laws.Small
import Derived.WideShapes
import Derived.MapKept
import Derived.Lib.ConvBytes
import Derived.RangeFuncRecord
set_option linter.unusedVariables false
set_option linter.unusedSectionVars false
set_option linter.unnecessarySimpa false
set_option linter.unusedSimpArgs false
namespace Go.Proofs.YtblnfodnkacbbaaGreatDoor.Q

/-- What is known of memory for good: block, cell. -/
abbrev Imm := Nat → Nat → Option Value
/-- Where a local object lies: by its number, and (of the room behind a slice) how many rows it has; nowhere: not yet. -/
abbrev Loc := Nat → Nat → Option (Option (Nat × Nat) × Nat)

/-- What one cell that never changes says. -/
inductive D where
  | int (k : IntKind) (n : Int)
  | bool (b : Bool)
  | str (s : List UInt8)
  | sl (rows : List (List D))
  | raw (v : Value)
  | ptr (row : List D)
  | fn (f : Fn) (first captured : List D)
  | set (xs : List Int)
  | memo (t : D)
  | nptr (row : List D)

/-- What a frame's slot or a cell that changes holds. -/
inductive V where
  | d (x : D)
  | agg (cs : List V)
  | tup (vs : List V)
  | ptr (id off : Nat)
  | iptr (row : List D)
  | eptr (id i off : Nat)
  | fsl (rows : List (List D))
  | gsl (rows : List (List D)) (t : Nat)
  | vsl (rows : List (List V))
  | arr (id off len : Nat)
  | map (id : Nat)
  | fn (f : Fn) (first captured : List V)
  | yld (id : Nat)
  | lookT (id : Nat) (x : D)
  | lookV (id : Nat) (x : D)
  | lookB (id : Nat)
  | undef

/-- An object of a local heap. -/
inductive Ob where
  | box (cells : List V)
  | tip (esz n : Nat)
  | parr (esz : Nat) (rows : List (List D))
  | hist (xs : List (List V))
  | mp (ks vs : List V)
  | bld (T e : Nat) (used : Bool) (s : List UInt8) (rest : List V)
  | iset (xs : List Int)
  | iter (xs seen : List Int)
  | flag
  | dead

/-! ### what pure data says of memory -/
def Addr0 (A : Option (Nat × Nat)) : Option Addr := A.map fun p => ⟨p.1, p.2, none⟩
/-- What is known of a map that never changes: its keys, each with true. -/
def setMark (l : List Int) (bs : List Nat) (clk : Nat) : Value := .tuple #[.bool true, .tuple (l.map (Value.int .i64)).toArray, .tuple (bs.map fun (n : Nat) => Value.int .i64 (n : Int)).toArray, .int .i64 (clk : Int)]
def setEs (l : List Int) (bs : List Nat) : List MapEntry := List.zipWith (fun k n => { key := .int .i64 k, val := .bool true, born := n }) l bs
/-- The entries of a set. -/
structure SetAt (es : Array MapEntry) (clk : Nat) (l : List Int) (bs : List Nat) : Prop where
  es : es.toList = setEs l bs
  len : l.length = bs.length
  nd : l.Nodup
  bnd : bs.Nodup
  lt : ∀ n ∈ bs, n < clk
/-- Known behind the last cell of a block: the block is a plain one. -/
def plainMark : Value := .tuple #[]
/-- What is known of a map that only remembers. -/
def memoMark (u : Value) : Value := .tuple #[.bool false, u]
mutual
def D.rep (G : Imm) : D → Value → Prop
  | .int k n, v => v = .int k n
  | .bool b, v => v = .bool b
  | .str s, v => v = .string ⟨s.toArray⟩
  | .raw u, v => v = u ∧ u.oneCell' = true
  | .ptr row, v => ∃ b o, v = .pointer (some ⟨b, o, none⟩) ∧ repRow G b o row
  | .fn f first captured, v => ∃ us vs : List Value, v = .func f us.toArray vs.toArray ∧ repDc G first us ∧ repDc G captured vs
  | .set xs, v => (v = .map none ∧ xs = []) ∨ ∃ (b : Nat) (l : List Int) (bs : List Nat) (clk : Nat), v = .map (some b) ∧ l.Perm xs ∧ G b 0 = some (setMark l bs clk)
  | .memo t, v => ∃ (b : Nat) (u : Value), v = .map (some b) ∧ G b 0 = some (memoMark u) ∧ t.rep G u
  | .nptr row, v => ∃ b o, v = .pointer (some ⟨b, o, none⟩) ∧ repRow G b o row ∧ ∃ n, G b n = some plainMark
  | .sl rows, v => ∃ (A : Option Addr) (c : Nat), v = .slice A rows.length c ∧ rows.length ≤ c ∧ (rows ≠ [] → ∃ b o e, A = some ⟨b, o, none⟩ ∧ repRows G b o e rows)
def repRow (G : Imm) (b : Nat) : Nat → List D → Prop
  | _, [] => True
  | o, d :: ds => (∃ u, G b o = some u ∧ d.rep G u) ∧ repRow G b (o + 1) ds
def repDc (G : Imm) : List D → List Value → Prop
  | [], us => us = []
  | x :: xs, us => ∃ u us', us = u :: us' ∧ x.rep G u ∧ repDc G xs us'
def repRows (G : Imm) (b : Nat) : Nat → Nat → List (List D) → Prop
  | _, _, [] => True
  | o, e, r :: rs => r.length = e ∧ repRow G b o r ∧ repRows G b (o + e) e rs
end

theorem a0 {α : Type} {rows : List α} {A : Option (Nat × Nat)} {X : Nat → Nat → Nat → Prop} (h : rows ≠ [] → ∃ b o e, A = some (b, o) ∧ X b o e) : rows ≠ [] → ∃ b o e, Addr0 A = some ⟨b, o, none⟩ ∧ X b o e := fun hn => by
  obtain ⟨b, o, e, hA, hr⟩ := h hn
  exact ⟨b, o, e, by rw [hA]; rfl, hr⟩
/-- G' knows all that G knows. -/
def Imm.le (G G' : Imm) : Prop := ∀ b o v, G b o = some v → G' b o = some v
theorem Imm.le.refl (G : Imm) : G.le G := fun _ _ _ h => h
theorem Imm.le.trans {G1 G2 G3 : Imm} (h : G1.le G2) (k : G2.le G3) : G1.le G3 := fun b o v e => k b o v (h b o v e)
def Loc.le (φ φ' : Loc) : Prop := ∀ i n z, φ i n = some z → φ' i n = some z
theorem Loc.le.refl (φ : Loc) : φ.le φ := fun _ _ _ h => h
theorem Loc.le.trans {a b c : Loc} (h : a.le b) (k : b.le c) : a.le c := fun i n z e => k i n z (h i n z e)

mutual
theorem D.rep_mono {G G' : Imm} (h : G.le G') : ∀ (x : D) (v : Value), x.rep G v → x.rep G' v
  | .int k n, v, e => e
  | .bool b, v, e => e
  | .str s, v, e => e
  | .raw u, v, e => e
  | .ptr row, v, ⟨b, o, e, h1⟩ => ⟨b, o, e, repRow_mono h b o row h1⟩
  | .fn f first captured, v, ⟨us, vs, e, h1, h2⟩ => ⟨us, vs, e, repDc_mono h first us h1, repDc_mono h captured vs h2⟩
  | .set xs, v, e => by
    rcases e with e | ⟨b, l, bs, clk, e1, e2, e3⟩
    · exact .inl e
    · exact .inr ⟨b, l, bs, clk, e1, e2, h _ _ _ e3⟩
  | .memo t, v, ⟨b, u, e1, e2, e3⟩ => ⟨b, u, e1, h _ _ _ e2, t.rep_mono h u e3⟩
  | .nptr row, v, ⟨b, o, e, h1, n, h2⟩ => ⟨b, o, e, repRow_mono h b o row h1, n, h _ _ _ h2⟩
  | .sl rows, v, ⟨A, c, e1, e2, e3⟩ => ⟨A, c, e1, e2, fun hn => by
      obtain ⟨b, o, e, hA, hr⟩ := e3 hn
      exact ⟨b, o, e, hA, repRows_mono h b o e rows hr⟩⟩
theorem repRow_mono {G G' : Imm} (h : G.le G') (b : Nat) : ∀ (o : Nat) (r : List D), repRow G b o r → repRow G' b o r
  | _, [], _ => trivial
  | o, d :: ds, ⟨⟨u, h1, h2⟩, h3⟩ => ⟨⟨u, h b o u h1, d.rep_mono h u h2⟩, repRow_mono h b (o + 1) ds h3⟩
theorem repDc_mono {G G' : Imm} (h : G.le G') : ∀ (xs : List D) (us : List Value), repDc G xs us → repDc G' xs us
  | [], us, e => e
  | x :: xs, us, ⟨u, us', e, h1, h2⟩ => ⟨u, us', e, x.rep_mono h u h1, repDc_mono h xs us' h2⟩
theorem repRows_mono {G G' : Imm} (h : G.le G') (b : Nat) : ∀ (o e : Nat) (rs : List (List D)), repRows G b o e rs → repRows G' b o e rs
  | _, _, [], _ => trivial
  | o, e, r :: rs, ⟨h1, h2, h3⟩ => ⟨h1, repRow_mono h b o r h2, repRows_mono h b (o + e) e rs h3⟩
end

theorem D.rep_one {G : Imm} {x : D} {v : Value} (h : x.rep G v) : v.oneCell' = true := by
  cases x <;> simp only [D.rep] at h
  case int => subst h; rfl
  case bool => subst h; rfl
  case str => subst h; rfl
  case raw => rw [h.1]; exact h.2
  case sl => obtain ⟨A, c, rfl, _⟩ := h; rfl
  case ptr => obtain ⟨b, o, rfl, _⟩ := h; rfl
  case fn => obtain ⟨us, vs, rfl, _⟩ := h; rfl
  case set =>
    rcases h with ⟨rfl, _⟩ | ⟨b, l, bs, clk, rfl, _⟩
    · rfl
    · rfl
  case memo => obtain ⟨b, u, rfl, _⟩ := h; rfl
  case nptr => obtain ⟨b, o, rfl, _⟩ := h; rfl

theorem repRow_get {G : Imm} {b : Nat} : ∀ {o : Nat} {r : List D}, repRow G b o r → ∀ (j : Nat) d, r[j]? = some d → ∃ u, G b (o + j) = some u ∧ d.rep G u
  | _, [], _, j, d, h => by simp at h
  | o, x :: xs, ⟨h1, h2⟩, 0, d, h => by simp at h; subst h; simpa using h1
  | o, x :: xs, ⟨h1, h2⟩, j + 1, d, h => by
    have := repRow_get h2 j d (by simpa using h)
    rwa [show o + 1 + j = o + (j + 1) by omega] at this
theorem repRow_of {G : Imm} {b : Nat} : ∀ {o : Nat} {r : List D}, (∀ (j : Nat) d, r[j]? = some d → ∃ u, G b (o + j) = some u ∧ d.rep G u) → repRow G b o r
  | _, [], _ => trivial
  | o, x :: xs, h => ⟨by simpa using h 0 x rfl, repRow_of fun j d hj => by
      have := h (j + 1) d (by simpa using hj)
      rwa [show o + (j + 1) = o + 1 + j by omega] at this⟩
theorem repRow_drop {G : Imm} {b o : Nat} {r : List D} (h : repRow G b o r) (k : Nat) : repRow G b (o + k) (r.drop k) :=
  repRow_of fun j d hj => by
    rw [List.getElem?_drop] at hj
    rw [Nat.add_assoc]; exact repRow_get h _ d hj
theorem repRow_take {G : Imm} {b o : Nat} {r : List D} (h : repRow G b o r) (k : Nat) : repRow G b o (r.take k) :=
  repRow_of fun j d hj => by
    rw [List.getElem?_take] at hj
    split at hj
    · exact repRow_get h _ d hj
    · cases hj
theorem repRows_get {G : Imm} {b : Nat} : ∀ {o e : Nat} {rs : List (List D)}, repRows G b o e rs → ∀ (i : Nat) r, rs[i]? = some r → r.length = e ∧ repRow G b (o + i * e) r
  | _, _, [], _, i, r, h => by simp at h
  | o, e, x :: xs, ⟨h0, h1, h2⟩, 0, r, h => by simp at h; subst h; simpa using ⟨h0, h1⟩
  | o, e, x :: xs, ⟨h0, h1, h2⟩, i + 1, r, h => by
    have := repRows_get h2 i r (by simpa using h)
    rwa [show o + e + i * e = o + (i + 1) * e by rw [Nat.succ_mul]; omega] at this
theorem repRows_of {G : Imm} {b : Nat} : ∀ {o e : Nat} {rs : List (List D)}, (∀ (i : Nat) r, rs[i]? = some r → r.length = e ∧ repRow G b (o + i * e) r) → repRows G b o e rs
  | _, _, [], _ => trivial
  | o, e, x :: xs, h => by
    have h0 := h 0 x rfl
    refine ⟨h0.1, by simpa using h0.2, repRows_of fun i r hi => ?_⟩
    have := h (i + 1) r (by simpa using hi)
    rwa [show o + (i + 1) * e = o + e + i * e by rw [Nat.succ_mul]; omega] at this
theorem repRows_append {G : Imm} {b o e : Nat} {rs qs : List (List D)} (h : repRows G b o e rs) (k : repRows G b (o + rs.length * e) e qs) : repRows G b o e (rs ++ qs) :=
  repRows_of fun i r hi => by
    rw [List.getElem?_append] at hi
    split at hi
    · exact repRows_get h i r hi
    · rename_i hn
      have := repRows_get k _ r hi
      rwa [Nat.add_assoc, ← Nat.add_mul, show rs.length + (i - rs.length) = i by omega] at this
theorem repRows_left {G : Imm} {b o e : Nat} {rs qs : List (List D)} (h : repRows G b o e (rs ++ qs)) : repRows G b o e rs :=
  repRows_of fun i r hi => repRows_get h i r (by rw [List.getElem?_append]; have := (List.getElem?_eq_some_iff.1 hi).1; rw [if_pos this]; exact hi)
theorem repRows_take {G : Imm} {b o e : Nat} {rs : List (List D)} (h : repRows G b o e rs) (k : Nat) : repRows G b o e (rs.take k) :=
  repRows_of fun i r hi => repRows_get h i r (by
    rw [List.getElem?_take] at hi
    split at hi
    · exact hi
    · cases hi)
theorem repRows_drop {G : Imm} {b o e : Nat} {rs : List (List D)} (h : repRows G b o e rs) (k : Nat) : repRows G b (o + k * e) e (rs.drop k) :=
  repRows_of fun i r hi => by
    rw [List.getElem?_drop] at hi
    have := repRows_get h _ r hi
    rwa [Nat.add_mul, ← Nat.add_assoc] at this
theorem repRows_len {G : Imm} {b o e : Nat} {rs : List (List D)} (h : repRows G b o e rs) (r : List D) (hr : r ∈ rs) : r.length = e := by
  obtain ⟨i, hi⟩ := List.getElem?_of_mem hr
  exact (repRows_get h i r hi).1

/-! ### what a frame's values say -/
mutual
def V.rep (G : Imm) (φ : Loc) : V → Value → Prop
  | .d x, v => x.rep G v
  | .agg cs, v => ∃ us : List Value, v = .agg us.toArray ∧ repVs G φ cs us ∧ (∀ u ∈ us, u.oneCell' = true)
  | .tup cs, v => ∃ us : List Value, v = .tuple us.toArray ∧ repVs G φ cs us
  | .ptr id off, v => ∃ b c, φ id 0 = some (some (b, 0), c) ∧ v = .pointer (some ⟨b, off, none⟩)
  | .eptr id i off, v => ∃ b c, φ id 0 = some (some (b, 0), c) ∧ v = .pointer (some ⟨b, i * c + off, none⟩)
  | .iptr row, v => ∃ b o, v = .pointer (some ⟨b, o, none⟩) ∧ repRow G b o row
  | .fsl rows, v => ∃ A, v = .slice (Addr0 A) rows.length rows.length ∧ (rows ≠ [] → ∃ b o e, A = some (b, o) ∧ repRows G b o e rows)
  | .gsl rows t, v => ∃ A c, φ t rows.length = some (A, c) ∧ v = .slice (Addr0 A) rows.length c ∧ rows.length ≤ c ∧ (rows ≠ [] → ∃ b o e, A = some (b, o) ∧ repRows G b o e rows)
  | .vsl rows, v => ∃ A c, v = .slice (Addr0 A) rows.length c ∧ rows.length ≤ c ∧ (rows ≠ [] → ∃ b o e, A = some (b, o) ∧ repVrows G φ b o e rows)
  | .arr id off len, v => ∃ b c, φ id 0 = some (some (b, 0), c) ∧ ∃ k, len ≤ k ∧ v = .slice (some ⟨b, off * c, none⟩) len k
  | .map id, v => ∃ b c, φ id 0 = some (some (b, 0), c) ∧ v = .map (some b)
  | .fn f first captured, v => ∃ us vs : List Value, v = .func f us.toArray vs.toArray ∧ repVs G φ first us ∧ repVs G φ captured vs
  | .yld id, v => ∃ b c, φ id 0 = some (some (b, 0), c) ∧ v = .func (.yield b) #[] #[]
  | .lookT id x, v => ∃ c s, φ id 0 = some (none, c) ∧ v = .tuple #[s, .bool (Nat.beq c 1)] ∧ (c = 1 → x.rep G s)
  | .lookV id x, v => ∃ c, φ id 0 = some (none, c) ∧ (c = 1 → x.rep G v)
  | .lookB id, v => ∃ c, φ id 0 = some (none, c) ∧ v = .bool (Nat.beq c 1)
  | .undef, v => True
def repVs (G : Imm) (φ : Loc) : List V → List Value → Prop
  | [], us => us = []
  | x :: xs, us => ∃ u us', us = u :: us' ∧ x.rep G φ u ∧ repVs G φ xs us'
def repVrow (G : Imm) (φ : Loc) (b : Nat) : Nat → List V → Prop
  | _, [] => True
  | o, d :: ds => (∃ u, G b o = some u ∧ d.rep G φ u ∧ u.oneCell' = true) ∧ repVrow G φ b (o + 1) ds
def repVrows (G : Imm) (φ : Loc) (b : Nat) : Nat → Nat → List (List V) → Prop
  | _, _, [] => True
  | o, e, r :: rs => r.length = e ∧ repVrow G φ b o r ∧ repVrows G φ b (o + e) e rs
end

mutual
theorem V.rep_mono {G G' : Imm} {φ φ' : Loc} (h : G.le G') (k : φ.le φ') : ∀ (x : V) (v : Value), x.rep G φ v → x.rep G' φ' v
  | .d x, v, e => x.rep_mono h v e
  | .agg cs, v, ⟨us, e, h1, h2⟩ => ⟨us, e, repVs_mono h k cs us h1, h2⟩
  | .tup cs, v, ⟨us, e, h1⟩ => ⟨us, e, repVs_mono h k cs us h1⟩
  | .ptr id off, v, ⟨b, c, h1, h2⟩ => ⟨b, c, k _ _ _ h1, h2⟩
  | .eptr id i off, v, ⟨b, c, h1, h2⟩ => ⟨b, c, k _ _ _ h1, h2⟩
  | .iptr row, v, ⟨b, o, e, h1⟩ => ⟨b, o, e, repRow_mono h b o row h1⟩
  | .fsl rows, v, ⟨A, e, h1⟩ => ⟨A, e, fun hn => let ⟨b, o, e, hA, hr⟩ := h1 hn; ⟨b, o, e, hA, repRows_mono h b o e rows hr⟩⟩
  | .gsl rows t, v, ⟨A, c, h0, e, hl, h1⟩ => ⟨A, c, k _ _ _ h0, e, hl, fun hn => let ⟨b, o, e, hA, hr⟩ := h1 hn; ⟨b, o, e, hA, repRows_mono h b o e rows hr⟩⟩
  | .vsl rows, v, ⟨A, c, e, hl, h1⟩ => ⟨A, c, e, hl, fun hn => let ⟨b, o, e, hA, hr⟩ := h1 hn; ⟨b, o, e, hA, repVrows_mono h k b o e rows hr⟩⟩
  | .arr id off len, v, ⟨b, c, h1, h2⟩ => ⟨b, c, k _ _ _ h1, h2⟩
  | .map id, v, ⟨b, c, h1, h2⟩ => ⟨b, c, k _ _ _ h1, h2⟩
  | .fn f first captured, v, ⟨us, vs, e, h1, h2⟩ => ⟨us, vs, e, repVs_mono h k first us h1, repVs_mono h k captured vs h2⟩
  | .yld id, v, ⟨b, c, h1, h2⟩ => ⟨b, c, k _ _ _ h1, h2⟩
  | .lookT id x, v, ⟨c, s, h1, h2, h3⟩ => ⟨c, s, k _ _ _ h1, h2, fun e => x.rep_mono h s (h3 e)⟩
  | .lookV id x, v, ⟨c, h1, h3⟩ => ⟨c, k _ _ _ h1, fun e => x.rep_mono h v (h3 e)⟩
  | .lookB id, v, ⟨c, h1, h2⟩ => ⟨c, k _ _ _ h1, h2⟩
  | .undef, v, _ => trivial
theorem repVs_mono {G G' : Imm} {φ φ' : Loc} (h : G.le G') (k : φ.le φ') : ∀ (xs : List V) (us : List Value), repVs G φ xs us → repVs G' φ' xs us
  | [], us, e => e
  | x :: xs, us, ⟨u, us', e, h1, h2⟩ => ⟨u, us', e, x.rep_mono h k u h1, repVs_mono h k xs us' h2⟩
theorem repVrow_mono {G G' : Imm} {φ φ' : Loc} (h : G.le G') (k : φ.le φ') (b : Nat) : ∀ (o : Nat) (r : List V), repVrow G φ b o r → repVrow G' φ' b o r
  | _, [], _ => trivial
  | o, d :: ds, ⟨⟨u, h1, h2, h4⟩, h3⟩ => ⟨⟨u, h b o u h1, d.rep_mono h k u h2, h4⟩, repVrow_mono h k b (o + 1) ds h3⟩
theorem repVrows_mono {G G' : Imm} {φ φ' : Loc} (h : G.le G') (k : φ.le φ') (b : Nat) : ∀ (o e : Nat) (rs : List (List V)), repVrows G φ b o e rs → repVrows G' φ' b o e rs
  | _, _, [], _ => trivial
  | o, e, r :: rs, ⟨h1, h2, h3⟩ => ⟨h1, repVrow_mono h k b o r h2, repVrows_mono h k b (o + e) e rs h3⟩
end

/-! ### data as a frame's value -/
mutual
def V.of : D → V
  | .ptr row => .iptr row
  | .fn f a b => .fn f (V.ofs a) (V.ofs b)
  | x => .d x
def V.ofs : List D → List V
  | [] => []
  | x :: xs => V.of x :: V.ofs xs
end
theorem V.ofs_map : ∀ l : List D, V.ofs l = l.map V.of
  | [] => rfl
  | x :: xs => by rw [V.ofs, V.ofs_map xs]; rfl
mutual
theorem V.of_rep {G : Imm} (φ : Loc) : ∀ (x : D) (v : Value), x.rep G v → (V.of x).rep G φ v
  | .ptr row, v, h => h
  | .fn f a b, v, ⟨us, vs, e, h1, h2⟩ => ⟨us, vs, e, V.ofs_rep φ a us h1, V.ofs_rep φ b vs h2⟩
  | .int k n, v, h => h
  | .bool b, v, h => h
  | .str s, v, h => h
  | .sl rows, v, h => h
  | .raw u, v, h => h
  | .set xs, v, h => h
  | .memo t, v, h => h
  | .nptr row, v, h => h
theorem V.ofs_rep {G : Imm} (φ : Loc) : ∀ (xs : List D) (us : List Value), repDc G xs us → repVs G φ (V.ofs xs) us
  | [], us, e => e
  | x :: xs, us, ⟨u, us', e, h1, h2⟩ => ⟨u, us', e, V.of_rep φ x u h1, V.ofs_rep φ xs us' h2⟩
end
theorem repVs_len {G : Imm} {φ : Loc} : ∀ {xs : List V} {us : List Value}, repVs G φ xs us → us.length = xs.length
  | [], _, h => by rw [show _ = [] from h]; rfl
  | x :: xs, _, ⟨u, us', e, _, h⟩ => by rw [e, List.length_cons, List.length_cons, repVs_len h]
theorem repVs_get {G : Imm} {φ : Loc} : ∀ {xs : List V} {us : List Value}, repVs G φ xs us → ∀ (i : Nat) x, xs[i]? = some x → ∃ u, us[i]? = some u ∧ x.rep G φ u
  | [], _, _, i, x, h => by simp at h
  | y :: ys, _, ⟨u, us', e, h1, h2⟩, 0, x, h => by simp at h; subst h; exact ⟨u, by rw [e]; rfl, h1⟩
  | y :: ys, _, ⟨u, us', e, h1, h2⟩, i + 1, x, h => by
    obtain ⟨u', a, b⟩ := repVs_get h2 i x (by simpa using h)
    exact ⟨u', by rw [e]; simpa using a, b⟩
theorem repVs_of {G : Imm} {φ : Loc} : ∀ {xs : List V} {us : List Value}, us.length = xs.length → (∀ (i : Nat) x u, xs[i]? = some x → us[i]? = some u → x.rep G φ u) → repVs G φ xs us
  | [], us, hl, _ => List.length_eq_zero_iff.1 (by simpa using hl)
  | x :: xs, [], hl, _ => by simp at hl
  | x :: xs, u :: us, hl, h => ⟨u, us, rfl, h 0 x u rfl rfl, repVs_of (by simpa using hl) fun i x u h1 h2 => h (i + 1) x u (by simpa using h1) (by simpa using h2)⟩
theorem repVs_append {G : Imm} {φ : Loc} : ∀ {xs : List V} {us : List Value} {ys : List V} {vs : List Value}, repVs G φ xs us → repVs G φ ys vs → repVs G φ (xs ++ ys) (us ++ vs)
  | [], _, ys, vs, h, k => by rw [show _ = [] from h]; exact k
  | x :: xs, _, ys, vs, ⟨u, us', e, h1, h2⟩, k => ⟨u, us' ++ vs, by rw [e]; rfl, h1, repVs_append h2 k⟩
theorem repVs_set {G : Imm} {φ : Loc} {xs : List V} {us : List Value} (h : repVs G φ xs us) (i : Nat) {x : V} {u : Value} (hx : x.rep G φ u) : repVs G φ (xs.set i x) (us.set i u) :=
  repVs_of (by simp [repVs_len h]) fun j y v h1 h2 => by
    rw [List.getElem?_set] at h1 h2
    split at h1
    · rename_i hij
      simp only [hij, if_true] at h2
      split at h1 <;> split at h2 <;> simp_all
    · rename_i hij
      simp only [hij, if_false] at h2
      obtain ⟨u', a, b⟩ := repVs_get h j y h1
      rw [a] at h2; injection h2 with h2; rw [← h2]; exact b
theorem repVs_take {G : Imm} {φ : Loc} {xs : List V} {us : List Value} (h : repVs G φ xs us) (k : Nat) : repVs G φ (xs.take k) (us.take k) :=
  repVs_of (by simp [repVs_len h]) fun j y v h1 h2 => by
    rw [List.getElem?_take] at h1 h2
    split at h1
    · rename_i hlt
      simp only [hlt, if_true] at h2
      obtain ⟨u', a, b⟩ := repVs_get h j y h1
      rw [a] at h2; injection h2 with h2; rw [← h2]; exact b
    · cases h1
theorem repVs_drop {G : Imm} {φ : Loc} {xs : List V} {us : List Value} (h : repVs G φ xs us) (k : Nat) : repVs G φ (xs.drop k) (us.drop k) :=
  repVs_of (by simp [repVs_len h]) fun j y v h1 h2 => by
    rw [List.getElem?_drop] at h1 h2
    obtain ⟨u', a, b⟩ := repVs_get h _ y h1
    rw [a] at h2; injection h2 with h2; rw [← h2]; exact b
theorem repVs_d {G : Imm} {φ : Loc} {b o : Nat} {r : List D} (h : repRow G b o r) : ∃ us : List Value, us.length = r.length ∧ repVs G φ (r.map V.of) us ∧ (∀ u ∈ us, u.oneCell' = true) ∧ ∀ (j : Nat) u, us[j]? = some u → G b (o + j) = some u := by
  induction r generalizing o with
  | nil => exact ⟨[], rfl, rfl, by simp, by simp⟩
  | cons d ds ih =>
    obtain ⟨⟨u, h1, h2⟩, h3⟩ := h
    obtain ⟨us, hl, hv, h1c, hg⟩ := ih h3
    refine ⟨u :: us, by simp [hl], ⟨u, us, rfl, V.of_rep φ d u h2, hv⟩, ?_, ?_⟩
    · intro x hx
      rcases List.mem_cons.1 hx with rfl | hx
      · exact D.rep_one h2
      · exact h1c x hx
    · intro j x hj
      cases j with
      | zero => simp at hj; subst hj; simpa using h1
      | succ j =>
        have := hg j x (by simpa using hj)
        rwa [show o + 1 + j = o + (j + 1) by omega] at this
theorem repRow_cells {G : Imm} {b : Nat} : ∀ {o : Nat} {r : List D}, repRow G b o r → ∃ us : List Value, us.length = r.length ∧ (∀ (j : Nat) d, r[j]? = some d → ∃ u, us[j]? = some u ∧ d.rep G u) ∧ (∀ (j : Nat) u, us[j]? = some u → G b (o + j) = some u) ∧ True
  | o, [], _ => ⟨[], rfl, by simp, by simp, trivial⟩
  | o, d :: ds, ⟨⟨u, h1, h2⟩, h3⟩ => by
    obtain ⟨us, g1, g2, g3, _⟩ := repRow_cells h3
    refine ⟨u :: us, by simp [g1], fun j d' hj => ?_, fun j x hj => ?_, trivial⟩
    · cases j with
      | zero => simp at hj; subst hj; exact ⟨u, rfl, h2⟩
      | succ j => simpa using g2 j d' (by simpa using hj)
    · cases j with
      | zero => simp at hj; subst hj; simpa using h1
      | succ j =>
        have := g3 j x (by simpa using hj)
        rwa [show o + 1 + j = o + (j + 1) by omega] at this
end Go.Proofs.YtblnfodnkacbbaaGreatDoor.Q

namespace Go.Proofs.YtblnfodnkacbbaaGreatDoor.Q

/-- What is said of a cell, or of a map. -/
def CellIs (Mo : Imm → Value → Value → Value → Prop) (G : Imm) (w : World) (b o : Nat) (v : Value) : Prop :=
  (w.cell? ⟨b, o, none⟩ = some v ∧ v.oneCell' = true) ∨ (o = 0 ∧ ∃ (es : Array MapEntry) (clk : Nat), w.heap[b]? = some (.map es clk) ∧
    ((∃ (l : List Int) (bs : List Nat), v = setMark l bs clk ∧ SetAt es clk l bs) ∨
     (∃ u, v = memoMark u ∧ (∀ e ∈ es.toList, e.born < clk) ∧ ∀ e ∈ es.toList, Mo G u e.key e.val))) ∨
  (v = plainMark ∧ ∃ (cs : Array Value) (T : TypeId), w.heap[b]? = some (.cells cs T (0, 0)) ∧ o = cs.size)
theorem CellIs.cell {Mo : Imm → Value → Value → Value → Prop} {G : Imm} {w : World} {b o : Nat} {v : Value} (h : CellIs Mo G w b o v) (h1 : v.oneCell' = true) : w.cell? ⟨b, o, none⟩ = some v := by
  rcases h with h | ⟨_, es, clk, _, ⟨l, bs, rfl, _⟩ | ⟨u, rfl, _⟩⟩ | ⟨rfl, _⟩
  · exact h.1
  · cases h1
  · cases h1
  · cases h1
theorem CellIs.keep {Mo : Imm → Value → Value → Value → Prop} (hMo : ∀ {G G' : Imm} {u k v : Value}, G.le G' → Mo G u k v → Mo G' u k v) {G G' : Imm} {w w' : World} {b o : Nat} {v : Value} (h : CellIs Mo G w b o v) (hle : G.le G')
    (hc : w.cell? ⟨b, o, none⟩ = some v → w'.cell? ⟨b, o, none⟩ = some v) (hm : w.cell? ⟨b, o, none⟩ = none → w'.heap[b]? = w.heap[b]?) : CellIs Mo G' w' b o v := by
  rcases h with h | ⟨h0, es, clk, h1, h2⟩ | ⟨h0, cs, T, h1, h2⟩
  · exact .inl ⟨hc h.1, h.2⟩
  · refine .inr (.inl ⟨h0, es, clk, by rw [hm (by simp [World.cell?, h1])]; exact h1, ?_⟩)
    rcases h2 with h2 | ⟨u, h2, h3, h4⟩
    · exact .inl h2
    · exact .inr ⟨u, h2, h3, fun e he => hMo hle (h4 e he)⟩
  · exact .inr (.inr ⟨h0, cs, T, by rw [hm (by simp [World.cell?, h1, h2])]; exact h1, h2⟩)
theorem CellIs.lt {Mo : Imm → Value → Value → Value → Prop} {G : Imm} {w : World} {b o : Nat} {v : Value} (h : CellIs Mo G w b o v) : b < w.heap.size := by
  rcases h with h | ⟨_, es, clk, h1, _⟩ | ⟨_, cs, T, h1, _⟩
  rotate_left 2
  · exact (Array.getElem?_eq_some_iff.1 h1).1
  · rcases Nat.lt_or_ge b w.heap.size with hb | hb
    · exact hb
    · have h := h.1; rw [World.cell?, Array.getElem?_eq_none hb] at h; cases h
  · exact (Array.getElem?_eq_some_iff.1 h1).1
/-- What is known for good is so. -/
def InvC (Mo : Imm → Value → Value → Value → Prop) (G : Imm) (w : World) : Prop := ∀ b o v, G b o = some v → CellIs Mo G w b o v
/-- A block that never changes: its place, its cells. -/
def TabOk (G : Imm) (w : World) (p : Nat × List Value) : Prop := p.2 ≠ [] ∧ (∃ T fr, w.heap[p.1]? = some (.cells p.2.toArray T fr)) ∧ ∀ j v, p.2[j]? = some v → G p.1 j = some v
def InvT (S : List (Nat × List Value)) (Mo : Imm → Value → Value → Value → Prop) (G : Imm) (w : World) : Prop := InvC Mo G w ∧ ∀ p ∈ S, TabOk G w p
instance {S : List (Nat × List Value)} {Mo : Imm → Value → Value → Value → Prop} {G : Imm} {w : World} : CoeFun (InvT S Mo G w) (fun _ => ∀ b o v, G b o = some v → v.oneCell' = true → w.cell? ⟨b, o, none⟩ = some v) := ⟨fun h b o v k h1 => (h.1 b o v k).cell h1⟩
theorem InvT.of {S : List (Nat × List Value)} {Mo : Imm → Value → Value → Value → Prop} {G G' : Imm} {w w' : World} (h : InvT S Mo G w) (hle : G.le G') (hb : ∀ b cs T fr, w.heap[b]? = some (.cells cs T fr) → 0 < cs.size → (∀ j, j < cs.size → (G b j).isSome = true) → w'.heap[b]? = w.heap[b]?) (hc : InvC Mo G' w') : InvT S Mo G' w' :=
  ⟨hc, fun p hp => by
    obtain ⟨h1, ⟨T, fr, h2⟩, h3⟩ := h.2 p hp
    refine ⟨h1, ⟨T, fr, ?_⟩, fun j v hj => hle _ _ _ (h3 j v hj)⟩
    rw [hb p.1 _ T fr h2 (by simpa using List.length_pos_iff.2 h1) (fun j hj => by
      have hj : j < p.2.length := by simpa using hj
      rw [h3 j _ (List.getElem?_eq_getElem hj)]; rfl)]
    exact h2⟩
/-- A map that only remembers. -/
def memoB (G : Imm) (w : World) (b : Nat) : Prop := (∃ u, G b 0 = some (memoMark u)) ∧ ∃ es clk, w.heap[b]? = some (.map es clk)
/-- A function that is called back: what it keeps of the world, by the arguments that it was called with so far. -/
class Amb where
  tabs : List (Nat × List Value)
  memo : Imm → Value → Value → Value → Prop
  memo_mono : ∀ {G G' : Imm} {u k v : Value}, G.le G' → memo G u k v → memo G' u k v
  l : Nat
  J : List (List V) → Imm → World → (Nat → Prop) → Prop
  ok : Program → List (List V) → Prop
  go : List (List V) → Bool
  lt : ∀ {xs : List (List V)} {G : Imm} {w : World} {B : Nat → Prop}, J xs G w B → ∀ b, B b → b < w.heap.size
  stable : ∀ {xs : List (List V)} {G G' : Imm} {w w' : World} {B : Nat → Prop}, J xs G w B → G.le G' → w.heap.size ≤ w'.heap.size → (∀ b, B b → ¬ memoB G w b → w'.heap[b]? = w.heap[b]? ∧ ∀ o, G' b o = G b o) → J xs G' w' B
  yield : ∀ {P : Program} {xs : List (List V)} {args : List V} {G : Imm} {w : World} {B : Nat → Prop} {vs : List Value}, ok P (xs ++ [args]) → (∀ m, 0 < m → m ≤ xs.length → go (xs.take m) = true) → J xs G w B → InvT tabs memo G w → (∀ φ, repVs G φ args vs) →
    ∃ f tmps assign body, (Instr.yield l vs.toArray).run P w = .ok (.round l f tmps assign body) w ∧ RoundIn Fence.wide 0 P l f tmps assign body w fun e w' => ∃ (G' : Imm) (B' : Nat → Prop), e = .returned (.bool (go (xs ++ [args]))) ∧ J (xs ++ [args]) G' w' B' ∧ InvT tabs memo G' w' ∧ G.le G' ∧
      (w'.os = w.os ∧ w'.tape = w.tape ∧ w'.output = w.output ∧ w.heap.size ≤ w'.heap.size) ∧ (∀ b, B b → B' b) ∧ (∀ b, B' b → B b ∨ w.heap.size ≤ b) ∧ ∀ b, b < w.heap.size → ¬ B b → ¬ memoB G w b → w'.heap[b]? = w.heap[b]? ∧ ∀ o, G' b o = G b o
variable [Amb]
abbrev Inv (G : Imm) (w : World) : Prop := InvT Amb.tabs Amb.memo G w
theorem CellIs.go {G G' : Imm} {w w' : World} {b o : Nat} {v : Value} (h : CellIs Amb.memo G w b o v) (hle : G.le G')
    (hc : w.cell? ⟨b, o, none⟩ = some v → w'.cell? ⟨b, o, none⟩ = some v) (hm : w.cell? ⟨b, o, none⟩ = none → w'.heap[b]? = w.heap[b]?) : CellIs Amb.memo G' w' b o v :=
  CellIs.keep (Mo := Amb.memo) (fun {_ _ _ _ _} hle h => Amb.memo_mono hle h) h hle hc hm

theorem setMark_inj {l l' : List Int} {bs bs' : List Nat} {clk clk' : Nat} (h : setMark l bs clk = setMark l' bs' clk') : l = l' ∧ bs = bs' ∧ clk = clk' := by
  unfold setMark at h
  injection h with h
  have h := congrArg Array.toList h
  simp only [List.cons.injEq, true_and, and_true] at h
  obtain ⟨h1, h2, h3⟩ := h
  injection h1 with h1
  injection h2 with h2
  injection h3 with _ h3
  have h1 := congrArg Array.toList h1
  have h2 := congrArg Array.toList h2
  simp only at h1 h2
  refine ⟨(List.map_inj_right (f := Value.int .i64) (fun x y e => by injection e)).1 h1, (List.map_inj_right (f := fun (n : Nat) => Value.int .i64 (n : Int)) (fun x y e => by injection e with _ e; omega)).1 h2, by omega⟩
/-- A set is there. -/
theorem set_rep {G : Imm} {w : World} (hi : Inv G w) {xs : List Int} {v : Value} (h : (D.set xs).rep G v) : (v = .map none ∧ xs = []) ∨
    ∃ (b : Nat) (es : Array MapEntry) (clk : Nat) (l : List Int) (bs : List Nat), v = .map (some b) ∧ G b 0 = some (setMark l bs clk) ∧ w.heap[b]? = some (.map es clk) ∧ SetAt es clk l bs ∧ l.Perm xs := by
  rcases h with h | ⟨b, l, bs, clk, h1, h2, h3⟩
  · exact .inl h
  · refine .inr ?_
    rcases hi.1 b 0 _ h3 with ⟨_, h4⟩ | ⟨_, es, clk', h4, ⟨l', bs', h5, h6⟩ | ⟨u, h5, _⟩⟩ | ⟨h5, _⟩
    · cases h4
    · obtain ⟨rfl, rfl, rfl⟩ := setMark_inj h5
      exact ⟨b, es, clk, l, bs, h1, h3, h4, h6, h2⟩
    · unfold setMark memoMark at h5
      injection h5 with h5
      have := congrArg Array.size h5
      simp at this
    · unfold setMark plainMark at h5
      injection h5 with h5
      have := congrArg Array.size h5
      simp at this
/-- What the first cell of a strings.Builder holds. -/
def bldP (b : Nat) (used : Bool) : Value := match used with
  | true => .pointer (some ⟨b, 0, none⟩)
  | false => .pointer none
def Holds (G : Imm) (w : World) (φ : Loc) (id : Nat) : Ob → Prop
  | .hist xs => (∃ c, φ id 0 = some (some (Amb.l, 0), c)) ∧ Amb.J xs G w (fun b => (φ id (b + 1)).isSome = true)
  | .iset xs => ∃ b c es clk l bs, φ id 0 = some (some (b, 0), c) ∧ w.heap[b]? = some (.map es clk) ∧ SetAt es clk l bs ∧ l.Perm xs ∧ (∀ o, G b o = none)
  | .iter xs seen => ∃ b c, φ id 0 = some (some (b, 0), c) ∧ (∀ o, G b o = none) ∧ ((xs = [] ∧ seen = [] ∧ ∃ s a n, w.heap[b]? = some (.mapIter none s a n)) ∨
      ∃ bm l bs clk sa, w.heap[b]? = some (.mapIter (some bm) clk sa clk) ∧ G bm 0 = some (setMark l bs clk) ∧ l.Perm xs ∧ sa.toList.length = seen.length ∧ ∀ (i : Nat) (k : Int) (n : Nat), seen[i]? = some k → sa.toList.reverse[i]? = some n → ∃ p : Nat, l[p]? = some k ∧ bs[p]? = some n)
  | .flag => ∃ c, φ id 0 = some (none, c)
  | .dead => True
  | .mp ks vs => ∃ b c es clk, φ id 0 = some (some (b, 0), c) ∧ w.heap[b]? = some (.map es clk) ∧ repVs G φ ks (es.toList.map (·.key)) ∧ repVs G φ vs (es.toList.map (·.val)) ∧ (∀ o, G b o = none)
  | .bld T e used s rest => ∃ b v us, φ id 0 = some (some (b, 0), 0) ∧ w.heap[b]? = some (.cells (bldP b used :: v :: us).toArray T (0, 0)) ∧ repVs G φ rest us ∧ (∀ u ∈ us, u.oneCell' = true) ∧ (∀ o, G b o = none) ∧
      v.ownBlock ≠ some b ∧ w.ownsRowF 0 e 1 v s.length (Lib.byteCells s) ∧ (∀ g, v.ownBlock = some g → (φ id (g + 1)).isSome = true) ∧ (∀ g, (φ id (g + 1)).isSome = true → g < w.heap.size ∧ ∀ o, G g o = none) ∧ (s = [] → v = .slice none 0 0)
  | .box cells => ∃ b c T us, φ id 0 = some (some (b, 0), c) ∧ w.heap[b]? = some (.cells (List.toArray us) T (0, 0)) ∧ repVs G φ cells us ∧ (∀ u ∈ us, u.oneCell' = true) ∧ (∀ o, G b o = none)
  | .tip e n => ∃ A c, φ id n = some (A, c) ∧ n ≤ c ∧ (∀ m, n < m → φ id m = none) ∧
      (n < c → ∃ b o cs T fr, A = some (b, o) ∧ w.heap[b]? = some (.cells cs T fr) ∧ o + c * e ≤ cs.size ∧ (∀ j, o + n * e ≤ j → G b j = none) ∧ fr.2 ≤ o + n * e)
  | .parr e rows => ∃ b T us, φ id 0 = some (some (b, 0), e) ∧ w.heap[b]? = some (.cells (List.toArray us) T (0, 0)) ∧ rows.length * e ≤ us.length ∧
      (∀ (i : Nat) r, rows[i]? = some r → r.length = e ∧ ∀ (j : Nat) d, r[j]? = some d → ∃ u, us[i * e + j]? = some u ∧ d.rep G u) ∧ (∀ o, G b o = none)

/-- The block that an object has for itself. -/
def own (φ : Loc) (id : Nat) : Ob → Option Nat
  | .hist _ => none
  | .dead => none
  | .bld _ _ _ _ _ => none
  | .box _ => match φ id 0 with | some (some (b, _), _) => some b | _ => none
  | .mp _ _ => match φ id 0 with | some (some (b, _), _) => some b | _ => none
  | .parr _ _ => match φ id 0 with | some (some (b, _), _) => some b | _ => none
  | .iset _ => match φ id 0 with | some (some (b, _), _) => some b | _ => none
  | .iter _ _ => match φ id 0 with | some (some (b, _), _) => some b | _ => none
  | .flag => none
  | .tip _ n => match φ id n with | some (some (b, _), c) => if n < c then some b else none | _ => none

/-- The blocks that an object has for itself. -/
def Owns (φ : Loc) (id : Nat) (ob : Ob) (b : Nat) : Prop := match ob with
  | .hist _ => (φ id (b + 1)).isSome = true
  | .bld _ _ _ _ _ => (∃ c, φ id 0 = some (some (b, 0), c)) ∨ (φ id (b + 1)).isSome = true
  | ob => own φ id ob = some b
theorem own_lt {G : Imm} {w : World} {φ : Loc} {id : Nat} {ob : Ob} {b : Nat} (h : Holds G w φ id ob) (k : Owns φ id ob b) : b < w.heap.size := by
  cases ob with
  | hist xs => exact Amb.lt h.2 b k
  | dead => simp [Owns, own] at k
  | flag => simp [Owns, own] at k
  | iset xs =>
    obtain ⟨b', c, es, clk, l, bs, h1, h2, _⟩ := h
    simp [Owns, own, h1] at k; subst k
    exact (Array.getElem?_eq_some_iff.1 h2).1
  | iter xs seen =>
    obtain ⟨b', c, h1, _, h3⟩ := h
    simp [Owns, own, h1] at k; subst k
    rcases h3 with ⟨_, _, s, a, n, h2⟩ | ⟨bm, l, bs, clk, sa, h2, _⟩
    · exact (Array.getElem?_eq_some_iff.1 h2).1
    · exact (Array.getElem?_eq_some_iff.1 h2).1
  | bld T e used s rest =>
    obtain ⟨b', v, us, h1, h2, _, _, _, _, _, _, h9, _⟩ := h
    rcases k with ⟨c, k⟩ | k
    · rw [h1] at k; injection k with k; injection k with k _; injection k with k; injection k with k; subst k
      exact (Array.getElem?_eq_some_iff.1 h2).1
    · exact (h9 b k).1
  | box cells =>
    obtain ⟨b', c, T, us, h1, h2, _⟩ := h
    simp [Owns, own, h1] at k; subst k
    exact (Array.getElem?_eq_some_iff.1 h2).1
  | mp ks vs =>
    obtain ⟨b', c, es, clk, h1, h2, _⟩ := h
    simp [Owns, own, h1] at k; subst k
    exact (Array.getElem?_eq_some_iff.1 h2).1
  | parr e rows =>
    obtain ⟨b', T, us, h1, h2, _⟩ := h
    simp [Owns, own, h1] at k; subst k
    exact (Array.getElem?_eq_some_iff.1 h2).1
  | tip e n =>
    obtain ⟨A, c, h1, h2, h3, h4⟩ := h
    simp only [Owns, own, h1] at k
    cases A with
    | none => simp at k
    | some A =>
      by_cases hc : n < c
      · obtain ⟨b', o, cs, T, fr, hA, hb, _⟩ := h4 hc
        injection hA with hA
        subst hA
        simp [hc] at k; subst k
        exact (Array.getElem?_eq_some_iff.1 hb).1
      · simp [hc] at k

abbrev Hp := Nat → Option Ob
structure Sit (G : Imm) (w : World) (φ : Loc) (H : Hp) : Prop where
  inv : Inv G w
  holds : ∀ i ob, H i = some ob → Holds G w φ i ob
  dist : ∀ i j ob ob' b, i ≠ j → H i = some ob → H j = some ob' → Owns φ i ob b → Owns φ j ob' b → False
  un : ∀ i, H i = none → ∀ n, φ i n = none

def ownS (φ : Loc) (H : Hp) (b : Nat) : Prop := ∃ i ob, H i = some ob ∧ Owns φ i ob b
/-- What a step has left as it was. -/
structure Goes (G : Imm) (w : World) (φ : Loc) (H : Hp) (G' : Imm) (w' : World) (φ' : Loc) (H' : Hp) : Prop where
  le : G.le G'
  ple : φ.le φ'
  os : w'.os = w.os
  tape : w'.tape = w.tape
  output : w'.output = w.output
  size : w.heap.size ≤ w'.heap.size
  block : ∀ b, b < w.heap.size → ¬ ownS φ H b → ¬ memoB G w b → w'.heap[b]? = w.heap[b]? ∧ ∀ o, G' b o = G b o
  owns : ∀ b, ownS φ' H' b → ownS φ H b ∨ w.heap.size ≤ b

theorem Goes.refl (G : Imm) (w : World) (φ : Loc) (H : Hp) : Goes G w φ H G w φ H := ⟨Imm.le.refl _, Loc.le.refl _, rfl, rfl, rfl, Nat.le_refl _, fun _ _ _ _ => ⟨rfl, fun _ => rfl⟩, fun _ h => .inl h⟩
theorem Goes.trans {G G1 G2 : Imm} {w w1 w2 : World} {φ φ1 φ2 : Loc} {H H1 H2 : Hp} (a : Goes G w φ H G1 w1 φ1 H1) (b : Goes G1 w1 φ1 H1 G2 w2 φ2 H2) : Goes G w φ H G2 w2 φ2 H2 where
  le := a.le.trans b.le
  ple := a.ple.trans b.ple
  os := b.os.trans a.os
  tape := b.tape.trans a.tape
  output := b.output.trans a.output
  size := Nat.le_trans a.size b.size
  block := fun k hk hn hm => by
    have h1 := a.block k hk hn hm
    have h2 := b.block k (Nat.lt_of_lt_of_le hk a.size) (fun ho => by
      rcases a.owns k ho with h | h
      · exact hn h
      · omega) (fun ⟨⟨u, hu⟩, es, clk, he⟩ => hm ⟨⟨u, by rw [← h1.2]; exact hu⟩, es, clk, by rw [← h1.1]; exact he⟩)
    exact ⟨h2.1.trans h1.1, fun o => (h2.2 o).trans (h1.2 o)⟩
  owns := fun k hk => by
    rcases b.owns k hk with h | h
    · exact a.owns k h
    · exact .inr (Nat.le_trans a.size h)

theorem ownsF_keep {w w' : World} {e : TypeId} {n : Nat} {v : Value} {xs : List Value} (h : w.ownsRowF 0 e 1 v n xs) (k : ∀ g, v.ownBlock = some g → w'.heap[g]? = w.heap[g]?) : w'.ownsRowF 0 e 1 v n xs := by
  refine ⟨h.1, ?_⟩
  rcases h.2 with hn | ⟨g, cap, cur, fz, hv, hb, hg, rest⟩
  · exact .inl hn
  · exact .inr ⟨g, cap, cur, fz, hv, hb, by rw [k g (by rw [hv]; rfl)]; exact hg, rest⟩
/-- What is not touched still holds. -/
theorem Holds.keepM {G G' : Imm} {w w' : World} {φ φ' : Loc} {i : Nat} {ob : Ob} (h : Holds G w φ i ob) (hle : G.le G') (hple : φ.le φ') (hφ : ∀ n, φ' i n = φ i n) (hsz : w.heap.size ≤ w'.heap.size)
    (hb : ∀ b, Owns φ i ob b → ¬ memoB G w b → w'.heap[b]? = w.heap[b]? ∧ ∀ o, G' b o = G b o) : Holds G' w' φ' i ob := by
  have nm : ∀ b, (∀ o, G b o = none) → ¬ memoB G w b := fun b h ⟨⟨u, hu⟩, _⟩ => by rw [h] at hu; cases hu
  cases ob with
  | hist xs =>
    obtain ⟨⟨c, h1⟩, h2⟩ := h
    refine ⟨⟨c, by rw [hφ]; exact h1⟩, ?_⟩
    have e : (fun b => (φ' i (b + 1)).isSome = true) = (fun b => (φ i (b + 1)).isSome = true) := by funext b; rw [hφ]
    rw [e]
    exact Amb.stable h2 hle hsz fun b hb' hm => hb b hb' hm
  | dead => trivial
  | bld T e used s rest =>
    obtain ⟨b, v, us, h1, h2, h3, h4, h5, h6, h7, h8, h9, h11⟩ := h
    obtain ⟨k1, k2⟩ := hb b (.inl ⟨_, h1⟩) (nm b h5)
    refine ⟨b, v, us, by rw [hφ]; exact h1, by rw [k1]; exact h2, repVs_mono hle hple _ _ h3, h4, fun o => by rw [k2]; exact h5 o, h6, ownsF_keep h7 fun g hg => (hb g (.inr (h8 g hg)) (nm g (h9 g (h8 g hg)).2)).1, fun g hg => by rw [hφ]; exact h8 g hg, fun g hg => ?_, h11⟩
    rw [hφ] at hg
    obtain ⟨l1, l2⟩ := h9 g hg
    obtain ⟨m1, m2⟩ := hb g (.inr hg) (nm g l2)
    refine ⟨?_, fun o => by rw [m2]; exact l2 o⟩
    have h10 : w.heap[g]? = some w.heap[g] := Array.getElem?_eq_getElem l1
    rw [h10] at m1
    exact (Array.getElem?_eq_some_iff.1 m1).1
  | box cells =>
    obtain ⟨b, c, T, us, h1, h2, h3, h4, h5⟩ := h
    obtain ⟨k1, k2⟩ := hb b (by simp [Owns, own, h1]) (nm b h5)
    exact ⟨b, c, T, us, by rw [hφ]; exact h1, by rw [k1]; exact h2, repVs_mono hle hple _ _ h3, h4, fun o => by rw [k2]; exact h5 o⟩
  | mp ks vs =>
    obtain ⟨b, c, es, clk, h1, h2, h3, h4, h5⟩ := h
    obtain ⟨k1, k2⟩ := hb b (by simp [Owns, own, h1]) (nm b h5)
    exact ⟨b, c, es, clk, by rw [hφ]; exact h1, by rw [k1]; exact h2, repVs_mono hle hple _ _ h3, repVs_mono hle hple _ _ h4, fun o => by rw [k2]; exact h5 o⟩
  | iset xs =>
    obtain ⟨b, c, es, clk, l, bs, h1, h2, h3, h4, h5⟩ := h
    obtain ⟨k1, k2⟩ := hb b (by simp [Owns, own, h1]) (nm b h5)
    exact ⟨b, c, es, clk, l, bs, by rw [hφ]; exact h1, by rw [k1]; exact h2, h3, h4, fun o => by rw [k2]; exact h5 o⟩
  | iter xs seen =>
    obtain ⟨b, c, h1, h2, h3⟩ := h
    obtain ⟨k1, k2⟩ := hb b (by simp [Owns, own, h1]) (nm b h2)
    refine ⟨b, c, by rw [hφ]; exact h1, fun o => by rw [k2]; exact h2 o, ?_⟩
    rcases h3 with ⟨e1, e2, s, a, n, e3⟩ | ⟨bm, l, bs, clk, sa, e1, e2, e3⟩
    · exact .inl ⟨e1, e2, s, a, n, by rw [k1]; exact e3⟩
    · exact .inr ⟨bm, l, bs, clk, sa, by rw [k1]; exact e1, hle _ _ _ e2, e3⟩
  | flag =>
    obtain ⟨c, h1⟩ := h
    exact ⟨c, by rw [hφ]; exact h1⟩
  | parr e rows =>
    obtain ⟨b, T, us, h1, h2, h3, h4, h5⟩ := h
    obtain ⟨k1, k2⟩ := hb b (by simp [Owns, own, h1]) (nm b h5)
    refine ⟨b, T, us, by rw [hφ]; exact h1, by rw [k1]; exact h2, h3, fun i r hi => ⟨(h4 i r hi).1, fun j d hj => ?_⟩, fun o => by rw [k2]; exact h5 o⟩
    obtain ⟨u, e1, e2⟩ := (h4 i r hi).2 j d hj
    exact ⟨u, e1, d.rep_mono hle u e2⟩
  | tip e n =>
    obtain ⟨A, c, h1, h2, h3, h4⟩ := h
    refine ⟨A, c, by rw [hφ]; exact h1, h2, fun m hm => by rw [hφ]; exact h3 m hm, fun hc => ?_⟩
    obtain ⟨b, o, cs, T, fr, hA, hh, hs, hn, hf⟩ := h4 hc
    obtain ⟨k1, k2⟩ := hb b (by simp [Owns, own, h1, hA, hc]) (fun ⟨_, es, clk, he⟩ => by rw [hh] at he; cases he)
    exact ⟨b, o, cs, T, fr, hA, by rw [k1]; exact hh, hs, fun j hj => by rw [k2]; exact hn j hj, hf⟩

theorem Holds.keep {G G' : Imm} {w w' : World} {φ φ' : Loc} {i : Nat} {ob : Ob} (h : Holds G w φ i ob) (hle : G.le G') (hple : φ.le φ') (hφ : ∀ n, φ' i n = φ i n) (hsz : w.heap.size ≤ w'.heap.size)
    (hb : ∀ b, Owns φ i ob b → w'.heap[b]? = w.heap[b]? ∧ ∀ o, G' b o = G b o) : Holds G' w' φ' i ob := h.keepM hle hple hφ hsz fun b hb' _ => hb b hb'
theorem own_le {φ φ' : Loc} {i : Nat} {ob : Ob} (hφ : ∀ n, φ' i n = φ i n) : Owns φ' i ob = Owns φ i ob := by
  funext b
  cases ob <;> simp only [Owns, own, hφ]

/-- A step that touches what T says. -/
theorem Sit.stepM {G G' : Imm} {w w' : World} {φ φ' : Loc} {H H' : Hp} (hs : Sit G w φ H) (T : Nat → Prop)
    (hle : G.le G') (hple : φ.le φ') (hφ : ∀ i, ¬ T i → ∀ n, φ' i n = φ i n)
    (hos : w'.os = w.os) (htape : w'.tape = w.tape) (hout : w'.output = w.output) (hsize : w.heap.size ≤ w'.heap.size)
    (hblk : ∀ b, b < w.heap.size → (∀ i ob, T i → H i = some ob → ¬ Owns φ i ob b) → ¬ memoB G w b → w'.heap[b]? = w.heap[b]? ∧ ∀ o, G' b o = G b o)
    (hH : ∀ i, ¬ T i → H' i = H i)
    (hinv : Inv G' w')
    (hnew : ∀ i ob, T i → H' i = some ob → Holds G' w' φ' i ob)
    (hdist : ∀ i j ob ob' b, T i → T j → i ≠ j → H' i = some ob → H' j = some ob' → Owns φ' i ob b → Owns φ' j ob' b → False)
    (hown : ∀ i ob b, T i → H' i = some ob → Owns φ' i ob b → (∃ j ob', T j ∧ H j = some ob' ∧ Owns φ j ob' b) ∨ w.heap.size ≤ b)
    (hun : ∀ i, T i → H' i = none → ∀ n, φ' i n = none) :
    Sit G' w' φ' H' ∧ Goes G w φ H G' w' φ' H' := by
  have keep : ∀ i ob, ¬ T i → H i = some ob → Holds G' w' φ' i ob := fun i ob hT hi => by
    have h0 := hs.holds i ob hi
    refine h0.keepM hle hple (hφ i hT) hsize fun b hb hm => hblk b (own_lt h0 hb) (fun j ob' hj hHj hob => ?_) hm
    exact hs.dist i j ob ob' b (fun e => hT (e ▸ hj)) hi hHj hb hob
  refine ⟨⟨hinv, ?_, ?_, ?_⟩, ⟨hle, hple, hos, htape, hout, hsize, ?_, ?_⟩⟩
  · intro i ob hi
    by_cases hT : T i
    · exact hnew i ob hT hi
    · rw [hH i hT] at hi; exact keep i ob hT hi
  · have mix : ∀ i j ob ob' b, T i → ¬ T j → H' i = some ob → H' j = some ob' → Owns φ' i ob b → Owns φ' j ob' b → False := by
      intro i j ob ob' b hi hj h1 h2 o1 o2
      rw [hH j hj] at h2
      rw [own_le (hφ j hj)] at o2
      rcases hown i ob b hi h1 o1 with ⟨k, ob3, hk, hHk, hok⟩ | hge
      · exact hs.dist k j ob3 ob' b (fun e => hj (e ▸ hk)) hHk h2 hok o2
      · have := own_lt (hs.holds j ob' h2) o2
        omega
    intro i j ob ob' b hij h1 h2 o1 o2
    by_cases hi : T i
    · by_cases hj : T j
      · exact hdist i j ob ob' b hi hj hij h1 h2 o1 o2
      · exact mix i j ob ob' b hi hj h1 h2 o1 o2
    · by_cases hj : T j
      · exact mix j i ob' ob b hj hi h2 h1 o2 o1
      · rw [hH i hi] at h1; rw [hH j hj] at h2
        rw [own_le (hφ i hi)] at o1; rw [own_le (hφ j hj)] at o2
        exact hs.dist i j ob ob' b hij h1 h2 o1 o2
  · intro i hi n
    by_cases hT : T i
    · exact hun i hT hi n
    · rw [hH i hT] at hi; rw [hφ i hT]; exact hs.un i hi n
  · intro b hb hn hm
    exact hblk b hb (fun i ob _ hi ho => hn ⟨i, ob, hi, ho⟩) hm
  · rintro b ⟨i, ob, hi, ho⟩
    by_cases hT : T i
    · rcases hown i ob b hT hi ho with ⟨j, ob', _, hj, hoj⟩ | h
      · exact .inl ⟨j, ob', hj, hoj⟩
      · exact .inr h
    · rw [hH i hT] at hi; rw [own_le (hφ i hT)] at ho
      exact .inl ⟨i, ob, hi, ho⟩

theorem Sit.step {G G' : Imm} {w w' : World} {φ φ' : Loc} {H H' : Hp} (hs : Sit G w φ H) (T : Nat → Prop)
    (hle : G.le G') (hple : φ.le φ') (hφ : ∀ i, ¬ T i → ∀ n, φ' i n = φ i n)
    (hos : w'.os = w.os) (htape : w'.tape = w.tape) (hout : w'.output = w.output) (hsize : w.heap.size ≤ w'.heap.size)
    (hblk : ∀ b, b < w.heap.size → (∀ i ob, T i → H i = some ob → ¬ Owns φ i ob b) → w'.heap[b]? = w.heap[b]? ∧ ∀ o, G' b o = G b o)
    (hH : ∀ i, ¬ T i → H' i = H i)
    (hinv : Inv G' w')
    (hnew : ∀ i ob, T i → H' i = some ob → Holds G' w' φ' i ob)
    (hdist : ∀ i j ob ob' b, T i → T j → i ≠ j → H' i = some ob → H' j = some ob' → Owns φ' i ob b → Owns φ' j ob' b → False)
    (hown : ∀ i ob b, T i → H' i = some ob → Owns φ' i ob b → (∃ j ob', T j ∧ H j = some ob' ∧ Owns φ j ob' b) ∨ w.heap.size ≤ b)
    (hun : ∀ i, T i → H' i = none → ∀ n, φ' i n = none) :
    Sit G' w' φ' H' ∧ Goes G w φ H G' w' φ' H' :=
  hs.stepM T hle hple hφ hos htape hout hsize (fun b hb hn _ => hblk b hb hn) hH hinv hnew hdist hown hun
/-- Of fewer objects. -/
theorem Sit.less {G : Imm} {w : World} {φ : Loc} {H H' : Hp} (hs : Sit G w φ H) (h : ∀ i ob, H' i = some ob → H i = some ob) (k : ∀ i, H' i = none → ∀ n, φ i n = none) : Sit G w φ H' :=
  ⟨hs.inv, fun i ob hi => hs.holds i ob (h i ob hi), fun i j ob ob' b hij h1 h2 => hs.dist i j ob ob' b hij (h i ob h1) (h j ob' h2), k⟩

/-- The count of draws does not matter. -/
theorem Inv.drew {G : Imm} {w : World} (h : Inv G w) : Inv G w.drew := h
theorem Sit.drew {G : Imm} {w : World} {φ : Loc} {H : Hp} (hs : Sit G w φ H) : Sit G w.drew φ H :=
  ⟨hs.inv, fun i ob hi => (hs.holds i ob hi).keep (Imm.le.refl _) (Loc.le.refl _) (fun _ => rfl) (Nat.le_refl _) (fun _ _ => ⟨rfl, fun _ => rfl⟩), hs.dist, hs.un⟩
theorem Goes.drew (G : Imm) (w : World) (φ : Loc) (H : Hp) : Goes G w φ H G w.drew φ H := ⟨Imm.le.refl _, Loc.le.refl _, rfl, rfl, rfl, Nat.le_refl _, fun _ _ _ _ => ⟨rfl, fun _ => rfl⟩, fun _ h => .inl h⟩

/-! ### slots -/
abbrev Env := List (Nat × V)
def lk : Env → Nat → Option V
  | [], _ => none
  | (k, x) :: r, t => bif Nat.beq k t then some x else lk r t
def EnvOk (G : Imm) (φ : Loc) (ρ : Env) (a : Act) : Prop := ∀ t x, lk ρ t = some x → ∃ v, a.tmps[t]? = some v ∧ x.rep G φ v
theorem EnvOk.mono {G G' : Imm} {φ φ' : Loc} {ρ : Env} {a : Act} (h : EnvOk G φ ρ a) (hle : G.le G') (hple : φ.le φ') : EnvOk G' φ' ρ a := fun t x hx => by
  obtain ⟨v, h1, h2⟩ := h t x hx
  exact ⟨v, h1, x.rep_mono hle hple v h2⟩
def put (ρ : Env) (t : Option Nat) (x : V) : Env := match t with | some t => (t, x) :: ρ | none => ρ
theorem lk_put {ρ : Env} {t u : Nat} {x : V} : lk ((t, x) :: ρ) u = if t = u then some x else lk ρ u := by
  rw [lk]
  by_cases h : t = u
  · simp [h]
  · have : Nat.beq t u = false := by
      cases hb : Nat.beq t u with
      | false => rfl
      | true => exact absurd (Nat.eq_of_beq_eq_true hb) h
    rw [this, if_neg h]; rfl

def ofVal : Value → Option V
  | .int k n => some (.d (.int k n))
  | .bool b => some (.d (.bool b))
  | .string s => some (.d (.str s.data.toList))
  | .slice A l c => match A, l, c with
    | none, 0, 0 => some (.fsl [])
    | _, _, _ => none
  | .agg _ => none
  | .tuple _ => none
  | .func f fs cs => match f, fs.toList, cs.toList with
    | .func f, [], [] => some (.fn (.func f) [] [])
    | _, _, _ => none
  | .map none => some (.d (.set []))
  | v => some (.d (.raw v))
def ofCells : List Value → Option (List V)
  | [] => some []
  | v :: vs => match ofVal v with
    | some x => match ofCells vs with
      | some xs => some (x :: xs)
      | none => none
    | none => none
/-- The cells of a struct; where it begins like a strings.Builder they are kept as they are. -/
def ofAgg : List Value → Option (List V)
  | .pointer none :: .slice none 0 0 :: r => (ofCells r).map fun xs => .d (.raw (.pointer none)) :: .d (.raw (.slice none 0 0)) :: xs
  | cs => ofCells cs
def ofConst : Value → Option V
  | .agg cs => (ofAgg cs.toList).map V.agg
  | v => ofVal v
theorem ofVal_rep {v : Value} {x : V} (h : ofVal v = some x) (G : Imm) (φ : Loc) : x.rep G φ v ∧ v.oneCell' = true := by
  cases v
  case int => injection h with h; subst h; exact ⟨rfl, rfl⟩
  case bool => injection h with h; subst h; exact ⟨rfl, rfl⟩
  case string s => injection h with h; subst h; exact ⟨by simp [V.rep, D.rep], rfl⟩
  case slice A l c =>
    unfold ofVal at h
    dsimp only at h
    split at h
    · injection h with h; subst h; exact ⟨⟨none, rfl, by simp⟩, rfl⟩
    · cases h
  case agg => cases h
  case tuple => cases h
  case func f fs cs =>
    unfold ofVal at h
    dsimp only at h
    split at h
    · rename_i h1 h2
      injection h with h; subst h
      have e1 : fs = #[] := by simpa using h1
      have e2 : cs = #[] := by simpa using h2
      subst e1; subst e2
      exact ⟨⟨[], [], rfl, rfl, rfl⟩, rfl⟩
    · cases h
  case map r =>
    cases r with
    | none => injection h with h; subst h; exact ⟨.inl ⟨rfl, rfl⟩, rfl⟩
    | some r => injection h with h; subst h; exact ⟨⟨rfl, rfl⟩, rfl⟩
  all_goals (injection h with h; subst h; exact ⟨⟨rfl, rfl⟩, rfl⟩)
theorem ofCells_rep : ∀ {vs : List Value} {xs : List V}, ofCells vs = some xs → ∀ (G : Imm) (φ : Loc), repVs G φ xs vs ∧ ∀ u ∈ vs, u.oneCell' = true
  | [], xs, h, G, φ => by simp [ofCells] at h; subst h; exact ⟨rfl, by simp⟩
  | v :: vs, xs, h, G, φ => by
    unfold ofCells at h
    split at h
    · rename_i x hx
      split at h
      · rename_i ys hys
        injection h with h; subst h
        obtain ⟨h1, h2⟩ := ofVal_rep hx G φ
        obtain ⟨h3, h4⟩ := ofCells_rep hys G φ
        exact ⟨⟨v, vs, rfl, h1, h3⟩, fun u hu => by
          rcases List.mem_cons.1 hu with rfl | hu
          · exact h2
          · exact h4 u hu⟩
      · cases h
    · cases h
theorem ofAgg_rep {vs : List Value} {xs : List V} (h : ofAgg vs = some xs) (G : Imm) (φ : Loc) : repVs G φ xs vs ∧ ∀ u ∈ vs, u.oneCell' = true := by
  unfold ofAgg at h
  split at h
  · rename_i r
    cases hc : ofCells r with
    | none => simp [hc] at h
    | some ys =>
      simp [hc] at h; subst h
      obtain ⟨h1, h2⟩ := ofCells_rep hc G φ
      refine ⟨⟨_, _, rfl, ⟨rfl, rfl⟩, _, _, rfl, ⟨rfl, rfl⟩, h1⟩, fun u hu => ?_⟩
      rcases List.mem_cons.1 hu with rfl | hu
      · rfl
      rcases List.mem_cons.1 hu with rfl | hu
      · rfl
      · exact h2 u hu
  · exact ofCells_rep h G φ
theorem ofConst_rep {v : Value} {x : V} (h : ofConst v = some x) (G : Imm) (φ : Loc) : x.rep G φ v := by
  unfold ofConst at h
  split at h
  · rename_i cs
    cases hc : ofAgg cs.toList with
    | none => simp [hc] at h
    | some xs =>
      simp [hc] at h; subst h
      obtain ⟨h1, h2⟩ := ofAgg_rep hc G φ
      exact ⟨cs.toList, by simp, h1, h2⟩
  · exact (ofVal_rep h G φ).1
def ev (ρ : Env) : Operand → Option V
  | .tmp t => lk ρ t
  | .const v => ofConst v
  | .global _ => none
  | .func f => some (.fn (.func f) [] [])
theorem ev_rep {G : Imm} {φ : Loc} {ρ : Env} {a : Act} {o : Operand} {x : V} (h : EnvOk G φ ρ a) (k : ev ρ o = some x) : x.rep G φ (a.eval o) := by
  cases o with
  | tmp t =>
    obtain ⟨v, h1, h2⟩ := h t x k
    simpa [Act.eval, Array.getD_eq_getD_getElem?, h1] using h2
  | const v => exact ofConst_rep k G φ
  | global g => cases k
  | func f => injection k with k; subst k; exact ⟨[], [], rfl, rfl, rfl⟩
def evs (ρ : Env) : List Operand → Option (List V)
  | [] => some []
  | o :: os => match ev ρ o with
    | some x => match evs ρ os with
      | some xs => some (x :: xs)
      | none => none
    | none => none
theorem evs_rep {G : Imm} {φ : Loc} {ρ : Env} {a : Act} (h : EnvOk G φ ρ a) : ∀ {os : List Operand} {xs : List V}, evs ρ os = some xs → repVs G φ xs (os.map a.eval)
  | [], xs, k => by simp [evs] at k; subst k; rfl
  | o :: os, xs, k => by
    unfold evs at k
    split at k
    · rename_i x hx
      split at k
      · rename_i ys hys
        injection k with k; subst k
        exact ⟨a.eval o, os.map a.eval, rfl, ev_rep h hx, evs_rep h hys⟩
      · cases k
    · cases k
end Go.Proofs.YtblnfodnkacbbaaGreatDoor.Q

namespace Go.Proofs.YtblnfodnkacbbaaGreatDoor.Q
variable [Amb]

inductive TK where
  | int (k : IntKind)
  | bool
  | str
  | slice (e : TypeId)
  | arr (n : Nat) (e : TypeId)
  | struct (fs : List (Nat × TypeId))
  | map (k e : TypeId)
  | ptr (e : TypeId)
  | other
structure TE where
  size : Nat
  bytes : Nat
  kind : TK
  zero : Option V
  cmp : Bool
def basicB (P : Program) (t : TypeId) : Bool := match P.underlying t with
  | some (.int _) => true
  | some .bool => true
  | some .string => true
  | _ => false
/-- May a struct's values be held against each other field by field? -/
def cmpB (P : Program) (t : TypeId) : Bool := match P.underlying t with
  | some (.struct fs) => fs.toList.all (fun f => !(f.name == "_") && basicB P f.type) && !P.stoodInHeld t && !P.eqGuardType P.depth t
  | _ => false
def mkK : TypeDesc → TK
  | .int k => .int k
  | .bool => .bool
  | .string => .str
  | .slice e => .slice e
  | .array n e => .arr n e
  | .struct fs => .struct (fs.toList.map fun f => (f.offset, f.type))
  | .map k e => .map k e
  | .pointer e => .ptr e
  | _ => .other
def mkTE (P : Program) (t : TypeId) : Option TE :=
  match P.info? t, P.underlying t with
  | some i, some d => some { size := i.size, bytes := i.bytes, kind := mkK d, zero := i.zero.bind ofConst, cmp := cmpB P t }
  | _, _ => none
abbrev TT := Nat → Option TE
def TTok (P : Program) (tt : TT) : Prop := ∀ t e, tt t = some e → mkTE P t = some e
def TK.agg : TK → Bool
  | .struct _ | .arr _ _ => true
  | _ => false

section
variable {P : Program} {tt : TT}
theorem tt_get (h : TTok P tt) {t : TypeId} {e : TE} (k : tt t = some e) : ∃ i d, P.info? t = some i ∧ P.underlying t = some d ∧ i.size = e.size ∧ i.bytes = e.bytes ∧ mkK d = e.kind ∧ i.zero.bind ofConst = e.zero := by
  have := h t e k
  unfold mkTE at this
  split at this
  · rename_i i d h1 h2
    injection this with this
    subst this
    exact ⟨i, d, h1, h2, rfl, rfl, rfl, rfl⟩
  · cases this
theorem tt_cmp (h : TTok P tt) {t : TypeId} {e : TE} (k : tt t = some e) (hc : e.cmp = true) : ∃ gs : Array Field, P.underlying t = some (.struct gs) ∧ (∀ f ∈ gs.toList, (f.name == "_") = false) ∧ P.stoodInHeld t = false ∧ P.eqGuardType P.depth t = false ∧ e.kind = .struct (gs.toList.map fun f => (f.offset, f.type)) := by
  have := h t e k
  unfold mkTE at this
  split at this
  · rename_i i d h1 h2
    injection this with this
    subst this
    simp only [cmpB, h2] at hc
    split at hc
    · rename_i d gs heq
      injection heq with heq
      subst heq
      simp only [Bool.and_eq_true, Bool.not_eq_true', List.all_eq_true] at hc
      exact ⟨gs, h2, fun f hf => (hc.1.1 f hf).1, hc.1.2, hc.2, rfl⟩
    · cases hc
  · cases this
variable (w : World)
theorem run_sizeOf (h : TTok P tt) {t : TypeId} {e : TE} (k : tt t = some e) : (sizeOf t).run P w = .ok e.size w := by
  obtain ⟨i, d, h1, h2, h3, _⟩ := tt_get h k
  simp [sizeOf, typeInfo, h1, h3]
theorem mkK_agg {d : TypeDesc} : (mkK d).agg = (match d with | .struct _ | .array _ _ => true | _ => false) := by
  cases d <;> rfl
theorem run_isAgg (h : TTok P tt) {t : TypeId} {e : TE} (k : tt t = some e) : (isAgg t).run P w = .ok e.kind.agg w := by
  obtain ⟨i, d, h1, h2, _, _, h3, _⟩ := tt_get h k
  rw [← h3, mkK_agg]
  unfold isAgg
  rw [Sem.run_bind, run_underlying h2]
  cases d <;> rfl
theorem run_zero (h : TTok P tt) {t : TypeId} {e : TE} (k : tt t = some e) {z : V} (hz : e.zero = some z) : ∃ v, (zeroValue t).run P w = .ok v w ∧ (∀ G φ, z.rep G φ v) ∧ ofConst v = some z := by
  obtain ⟨i, d, h1, h2, _, _, h3, h4⟩ := tt_get h k
  rw [hz, Option.bind_eq_some_iff] at h4
  obtain ⟨v, h5, h6⟩ := h4
  exact ⟨v, by simp [zeroValue, typeInfo, h1, h5], fun G φ => ofConst_rep h6 G φ, h6⟩
theorem add_lit (b o k : Nat) : (⟨b, o, none⟩ : Addr).add k = ⟨b, o + k, none⟩ := by
  unfold Addr.add; split <;> simp_all
/-- Where is a scalar: its cell. -/
theorem run_loadVar_one (h : TTok P tt) {t : TypeId} {e : TE} (k : tt t = some e) (ha : e.kind.agg = false) (b o : Nat) {v : Value} (hc : w.cell? ⟨b, o, none⟩ = some v) : (loadVar t ⟨b, o, none⟩).run P w = .ok v w := by
  unfold loadVar
  rw [Sem.run_bind, run_isAgg w h k, ha]
  simp [hc]
theorem run_loadVar_many (h : TTok P tt) {t : TypeId} {e : TE} (k : tt t = some e) (ha : e.kind.agg = true) (b o : Nat) (us : List Value) (hl : us.length = e.size) (hc : ∀ (j : Nat) v, us[j]? = some v → w.cell? ⟨b, o + j, none⟩ = some v) : (loadVar t ⟨b, o, none⟩).run P w = .ok (.agg us.toArray) w := by
  unfold loadVar
  have := run_loadCells_list (P := P) w ⟨b, o, none⟩ us (fun j v hj => by rw [add_lit]; exact hc j v hj)
  rw [hl] at this
  simp [run_isAgg w h k, ha, run_sizeOf w h k, this]
theorem cell_us {b : Nat} {us : List Value} {T : TypeId} {fr : Nat × Nat} (hg : w.heap[b]? = some (.cells us.toArray T fr)) (j : Nat) : w.cell? ⟨b, j, none⟩ = us[j]? := by
  rw [cell_of_row w b j us.toArray T fr hg]; simp
end

/-- The cells of a value of a frame. -/
def V.cells : V → List V
  | .agg cs => cs
  | v => [v]
theorem V.cells_rep {G : Imm} {φ : Loc} {x : V} {v : Value} (h : x.rep G φ v) (hx : match x with | .tup _ => False | .undef => False | .lookT _ _ => False | .lookV _ _ => False | _ => True) : repVs G φ x.cells v.cells.toList ∧ ∀ u ∈ v.cells.toList, u.oneCell' = true := by
  have one : v.oneCell' = true → v.cells.toList = [v] := by
    intro h1
    cases v <;> first | rfl | (simp [Value.oneCell'] at h1)
  have fin : v.oneCell' = true → x.cells = [x] → repVs G φ x.cells v.cells.toList ∧ ∀ u ∈ v.cells.toList, u.oneCell' = true := by
    intro h1 h2
    rw [h2, one h1]
    exact ⟨⟨v, [], rfl, h, rfl⟩, by simpa using h1⟩
  cases x with
  | agg cs => obtain ⟨us, rfl, h1, h2⟩ := h; exact ⟨by simpa [V.cells, Value.cells] using h1, by simpa [Value.cells] using h2⟩
  | tup => exact hx.elim
  | undef => exact hx.elim
  | lookT => exact hx.elim
  | lookV => exact hx.elim
  | lookB => obtain ⟨c, _, rfl⟩ := h; exact fin rfl rfl
  | d y => exact fin (D.rep_one h) rfl
  | ptr => obtain ⟨b, c, _, rfl⟩ := h; exact fin rfl rfl
  | eptr => obtain ⟨b, c, _, rfl⟩ := h; exact fin rfl rfl
  | iptr => obtain ⟨b, c, rfl, _⟩ := h; exact fin rfl rfl
  | fsl => obtain ⟨A, rfl, _⟩ := h; exact fin rfl rfl
  | gsl => obtain ⟨A, c, _, rfl, _⟩ := h; exact fin rfl rfl
  | vsl => obtain ⟨A, c, rfl, _⟩ := h; exact fin rfl rfl
  | arr => obtain ⟨b, c, _, k, _, rfl⟩ := h; exact fin rfl rfl
  | map => obtain ⟨b, c, _, rfl⟩ := h; exact fin rfl rfl
  | fn => obtain ⟨us, vs, rfl, _⟩ := h; exact fin rfl rfl
  | yld => obtain ⟨b, c, _, rfl⟩ := h; exact fin rfl rfl
def V.cellB : V → Bool
  | .tup _ => false
  | .undef => false
  | .lookT _ _ => false
  | .lookV _ _ => false
  | _ => true
theorem V.cells_rep' {G : Imm} {φ : Loc} {x : V} {v : Value} (h : x.rep G φ v) (hx : x.cellB = true) : repVs G φ x.cells v.cells.toList ∧ ∀ u ∈ v.cells.toList, u.oneCell' = true := by
  refine V.cells_rep h ?_
  cases x <;> simp_all [V.cellB]

/-- A block's cells written anew. -/
theorem run_storeVar_at {P : Program} {tt : TT} (h : TTok P tt) {t : TypeId} {e : TE} (k : tt t = some e) (w : World) (b o : Nat) (T : TypeId) (fz : Nat × Nat) (cur : List Value) (v : Value) (hv : ∀ u ∈ v.cells.toList, u.oneCell' = true) (hsz : v.cells.toList.length = e.size)
    (hg : w.heap[b]? = some (.cells cur.toArray T fz)) (hz : fz.2 ≤ o) (hl : o + e.size ≤ cur.length) :
    (storeVar t ⟨b, o, none⟩ v).run P w = .ok () (w.setRow b (cur.take o ++ v.cells.toList ++ cur.drop (o + e.size)).toArray) := by
  have := run_storeCells_atF P b o T fz v.cells.toList 0 cur.toArray w hg (by simpa using hz) (by simp at hsz ⊢; omega) hv
  unfold storeVar
  rw [Sem.run_bind, run_sizeOf w h k]
  have hs : v.cells.size = e.size := by simpa using hsz
  simp only [Result.andThen_ok, hs, ne_eq, not_true_eq_false, if_false, Sem.run_bind]
  simp only [Nat.add_zero] at this
  rw [hsz] at this
  simpa using this

theorem setRow_size (w : World) (b : Nat) (cs : Array Value) : (w.setRow b cs).heap.size = w.heap.size := by simp [World.setRow]
end Go.Proofs.YtblnfodnkacbbaaGreatDoor.Q

namespace Go.Proofs.YtblnfodnkacbbaaGreatDoor.Q
variable [Amb]

/-- What an operation yields; what it looks at, writes, makes. -/
structure Eff where
  x : V
  rd : List Nat
  wr : List (Nat × Ob)
  nw : List Ob
def lkO : List (Nat × Ob) → Nat → Option Ob
  | [], _ => none
  | (k, ob) :: r, i => bif Nat.beq k i then some ob else lkO r i
def upd (H : Hp) (base : Nat) (e : Eff) : Hp := fun i => match lkO e.wr i with
  | some ob => some ob
  | none => if base ≤ i ∧ i < base + e.nw.length then e.nw[i - base]? else H i
def setAll (H : List Ob) : List (Nat × Ob) → List Ob
  | [] => H
  | (i, ob) :: r => (setAll H r).set i ob
def updL (H : List Ob) (e : Eff) : List Ob := match e.wr, e.nw with
  | [], [] => H
  | wr, nw => setAll H wr ++ nw
theorem updL_eq (H : List Ob) (e : Eff) : updL H e = setAll H e.wr ++ e.nw := by
  unfold updL
  split
  · rename_i h1 h2; rw [h1, h2]; simp [setAll]
  · rfl
abbrev hp (H : List Ob) : Hp := fun i => H[i]?
theorem setAll_len (H : List Ob) : ∀ r, (setAll H r).length = H.length
  | [] => rfl
  | (i, ob) :: r => by simp [setAll, setAll_len H r]
theorem lkO_cons (k : Nat) (ob : Ob) (r : List (Nat × Ob)) (i : Nat) : lkO ((k, ob) :: r) i = if k = i then some ob else lkO r i := by
  rw [lkO]
  by_cases h : k = i
  · simp [h]
  · have : Nat.beq k i = false := by
      cases hb : Nat.beq k i with
      | false => rfl
      | true => exact absurd (Nat.eq_of_beq_eq_true hb) h
    rw [this, if_neg h]; rfl
theorem setAll_get (H : List Ob) (i : Nat) (hi : i < H.length) : ∀ r, (setAll H r)[i]? = match lkO r i with | some ob => some ob | none => H[i]?
  | [] => rfl
  | (k, ob) :: r => by
    rw [lkO_cons]
    simp only [setAll, List.getElem?_set, setAll_len]
    by_cases h : k = i
    · simp [h, hi]
    · simp only [h, if_false]; exact setAll_get H i hi r
theorem lkO_mem : ∀ {r : List (Nat × Ob)} {i : Nat} {ob : Ob}, lkO r i = some ob → (i, ob) ∈ r
  | [], _, _, h => by cases h
  | (k, ob') :: r, i, ob, h => by
    rw [lkO_cons] at h
    split at h
    · rename_i hk; injection h with h; subst h; subst hk; exact List.mem_cons_self
    · exact List.mem_cons_of_mem _ (lkO_mem h)
theorem upd_hp (H : List Ob) (e : Eff) (hw : ∀ p ∈ e.wr, p.1 < H.length) : upd (hp H) H.length e = hp (updL H e) := by
  funext i
  simp only [upd, hp, updL_eq]
  by_cases hi : i < H.length
  · rw [List.getElem?_append_left (by rw [setAll_len]; exact hi), setAll_get H i hi]
    split
    · rfl
    · rw [if_neg (by omega)]
  · rw [List.getElem?_append_right (by rw [setAll_len]; omega), setAll_len]
    have : lkO e.wr i = none := by
      cases hk : lkO e.wr i with
      | none => rfl
      | some ob => have := hw _ (lkO_mem hk); omega
    rw [this]
    by_cases hk : i < H.length + e.nw.length
    · rw [if_pos ⟨by omega, hk⟩]
    · rw [if_neg (by omega), List.getElem?_eq_none (by omega : H.length ≤ i), List.getElem?_eq_none (by omega)]

def OpRep (o : Oper) (ρ : Env) (a : Act) (G : Imm) (φ : Loc) : Prop := ∀ x X, x ∈ o.op.operands → ev ρ x = some X → X.rep G φ (a.eval x)
/-- The operation does what e says, whatever lies beside. -/
structure Tri (P : Program) (o : Oper) (ρ : Env) (H : List Ob) (e : Eff) : Prop where
  rd : ∀ i ∈ e.rd, i < H.length
  wr : ∀ p ∈ e.wr, p.1 < H.length
  go : ∀ (a : Act) (G : Imm) (w : World) (φ : Loc) (Hx : Hp) (K : Act → World → Prop) (Q : Exit → Act → World → Prop), Sit G w φ Hx → OpRep o ρ a G φ →
    (∀ i, i ∈ e.rd ∨ (∃ p ∈ e.wr, p.1 = i) → Hx i = H[i]?) → (∀ i, H.length ≤ i → i < H.length + e.nw.length → Hx i = none) →
    (∀ v G' w' φ', Sit G' w' φ' (upd Hx H.length e) → Goes G w φ Hx G' w' φ' (upd Hx H.length e) → e.x.rep G' φ' v → K (a.put o.dst v) w') → o.wp P a w K Q

theorem upd_nil (H : Hp) (base : Nat) (x : V) (rd : List Nat) : upd H base ⟨x, rd, [], []⟩ = H := by
  funext i
  simp only [upd, lkO, List.length_nil, Nat.add_zero]
  rw [if_neg (by omega)]
theorem tri_val {P : Program} {o : Oper} {ρ : Env} {H : List Ob} {x : V} {rd : List Nat} (hr : ∀ i ∈ rd, i < H.length)
    (h : ∀ (a : Act) (G : Imm) (w : World) (φ : Loc) (Hx : Hp), Sit G w φ Hx → OpRep o ρ a G φ → (∀ i, i ∈ rd → Hx i = H[i]?) → ∃ v, (execOp a.eval o).run P w = .ok (.value v) w ∧ x.rep G φ v) : Tri P o ρ H ⟨x, rd, [], []⟩ where
  rd := hr
  wr := by simp
  go := fun a G w φ Hx K Q hs ho ha hf hK => by
    obtain ⟨v, hv, hx⟩ := h a G w φ Hx hs ho fun i hi => ha i (.inl hi)
    rw [upd_nil] at hK
    unfold Oper.wp
    rw [hv, Oper.upon_value]
    exact hK v G w φ hs (Goes.refl _ _ _ _) hx

/-! ### a new object -/
def setLoc (φ : Loc) (i n : Nat) (z : Option (Nat × Nat) × Nat) : Loc := fun j m => if j = i ∧ m = n then some z else φ j m
theorem setLoc_le {φ : Loc} {i n : Nat} {z : Option (Nat × Nat) × Nat} (h : φ i n = none) : φ.le (setLoc φ i n z) := fun j m y e => by
  unfold setLoc
  split
  · rename_i hh; rw [hh.1, hh.2, h] at e; cases e
  · exact e
theorem setLoc_same (φ : Loc) (i n : Nat) (z : Option (Nat × Nat) × Nat) : setLoc φ i n z i n = some z := by simp [setLoc]
theorem setLoc_other {φ : Loc} {i n : Nat} {z : Option (Nat × Nat) × Nat} {j m : Nat} (h : m ≠ n) : setLoc φ i n z j m = φ j m := by simp [setLoc, h]
theorem setLoc_ne {φ : Loc} {i n : Nat} {z : Option (Nat × Nat) × Nat} {j m : Nat} (h : j ≠ i) : setLoc φ i n z j m = φ j m := by simp [setLoc, h]
theorem heap_new (w : World) (o : Obj) : (w.alloc o).heap[w.heap.size]? = some o := heap_alloc_new w o
theorem Inv.fresh {G : Imm} {w : World} (h : Inv G w) {b : Nat} (hb : w.heap.size ≤ b) (o : Nat) : G b o = none := by
  cases hg : G b o with
  | none => rfl
  | some v =>
    have := (h.1 b o v hg).lt
    omega
theorem Inv.alloc {G : Imm} {w : World} (h : Inv G w) (ob : Obj) : Inv G (w.alloc ob) := h.of (Imm.le.refl _) (fun b cs T fr hb _ _ => by
  show (w.heap.push ob)[b]? = _
  rw [Array.getElem?_push, if_neg (by have := (Array.getElem?_eq_some_iff.1 hb).1; omega)]) fun b o v hg => (h.1 b o v hg).go (Imm.le.refl _) (fun h1 => by
    have h2 := World.block_lt_of_cell? w _ h1
    exact (World.cell?_alloc_lt (w := w) (o := ob) (a := ⟨b, o, none⟩) h2).trans h1) fun _ => by
  show (w.heap.push ob)[b]? = _
  rw [Array.getElem?_push, if_neg (by have := (h.1 b o v hg).lt; omega)]
theorem upd_new (H : Hp) (base : Nat) (x : V) (rd : List Nat) (ob : Ob) : upd H base ⟨x, rd, [], [ob]⟩ = fun i => if i = base then some ob else H i := by
  funext i
  simp only [upd, lkO, List.length_singleton]
  by_cases h : i = base
  · subst h; simp
  · rw [if_neg h, if_neg (by omega)]
theorem alloc_low (w : World) (o : Obj) {b : Nat} (h : b < w.heap.size) : (w.alloc o).heap[b]? = w.heap[b]? := by
  show (w.heap.push o)[b]? = _
  rw [Array.getElem?_push, if_neg (by omega)]
/-- One more object in a new block. -/
theorem Sit.add {G : Imm} {w : World} {φ : Loc} {H : Hp} (hs : Sit G w φ H) (base n c : Nat) (ob : Ob) (o : Obj) (hn : H base = none)
    (hh : Holds G (w.alloc o) (setLoc φ base n (some (w.heap.size, 0), c)) base ob) (ho : ∀ b, Owns (setLoc φ base n (some (w.heap.size, 0), c)) base ob b → b = w.heap.size) :
    Sit G (w.alloc o) (setLoc φ base n (some (w.heap.size, 0), c)) (fun i => if i = base then some ob else H i) ∧ Goes G w φ H G (w.alloc o) (setLoc φ base n (some (w.heap.size, 0), c)) (fun i => if i = base then some ob else H i) := by
  refine hs.step (fun i => i = base) (Imm.le.refl _) (setLoc_le (hs.un base hn n)) (fun i hi m => setLoc_ne hi) rfl rfl rfl (by simp) ?_ (fun i hi => if_neg hi) (hs.inv.alloc o) ?_ ?_ ?_ ?_
  · intro b hb _
    exact ⟨alloc_low w o hb, fun _ => rfl⟩
  · intro i ob' hi hH
    subst hi
    simp at hH; subst hH; exact hh
  · intro i j ob1 ob2 b hi hj hij
    exact absurd (hi.trans hj.symm) hij
  · intro i ob' b hi hH hb
    subst hi
    simp at hH; subst hH
    exact .inr (Nat.le_of_eq (ho b hb).symm)
  · intro i hi hH
    subst hi; simp at hH

theorem holds_box_new {G : Imm} {w : World} {φ : Loc} {id : Nat} {cells : List V} {us : List Value} {T : TypeId} {c : Nat} (hi : Inv G w) (hφ : φ id 0 = none) (h : repVs G φ cells us) (h1 : ∀ u ∈ us, u.oneCell' = true) :
    Holds G (w.alloc (.cells us.toArray T)) (setLoc φ id 0 (some (w.heap.size, 0), c)) id (.box cells) :=
  ⟨w.heap.size, c, T, us, setLoc_same _ _ _ _, heap_new w _, repVs_mono (Imm.le.refl _) (setLoc_le hφ) _ _ h, h1, hi.fresh (Nat.le_refl _)⟩
theorem tri_box {P : Program} {o : Oper} {ρ : Env} {H : List Ob} {cells : List V}
    (h : ∀ (a : Act) (G : Imm) (w : World) (φ : Loc), OpRep o ρ a G φ → ∃ us T, (execOp a.eval o).run P w = .ok (.value (.pointer (some ⟨w.heap.size, 0, none⟩))) (w.alloc (.cells (List.toArray us) T)) ∧ repVs G φ cells us ∧ ∀ u ∈ us, u.oneCell' = true) :
    Tri P o ρ H ⟨.ptr H.length 0, [], [], [.box cells]⟩ where
  rd := by simp
  wr := by simp
  go := fun a G w φ Hx K Q hs ho ha hf hK => by
    obtain ⟨us, T, hv, hr, h1⟩ := h a G w φ ho
    have hn : Hx H.length = none := hf _ (Nat.le_refl _) (by simp)
    have hst := hs.add H.length 0 0 (.box cells) (.cells us.toArray T) hn (holds_box_new hs.inv (hs.un _ hn 0) hr h1) (fun b hb => by simp [Owns, own, setLoc_same] at hb; exact hb.symm)
    rw [upd_new] at hK
    unfold Oper.wp
    rw [hv, Oper.upon_value]
    exact hK _ _ _ _ hst.1 hst.2 ⟨w.heap.size, 0, setLoc_same _ _ _ _, rfl⟩

/-- A new strings.Builder, perhaps at the head of a struct. -/
theorem tri_bld {P : Program} {o : Oper} {ρ : Env} {H : List Ob} {T e : TypeId} {rest : List V}
    (h : ∀ (a : Act) (G : Imm) (w : World) (φ : Loc), OpRep o ρ a G φ → ∃ us, (execOp a.eval o).run P w = .ok (.value (.pointer (some ⟨w.heap.size, 0, none⟩))) (w.alloc (.cells (List.toArray (.pointer none :: .slice none 0 0 :: us)) T)) ∧ repVs G φ rest us ∧ ∀ u ∈ us, u.oneCell' = true) :
    Tri P o ρ H ⟨.ptr H.length 0, [], [], [.bld T e false [] rest]⟩ where
  rd := by simp
  wr := by simp
  go := fun a G w φ Hx K Q hs ho ha hf hK => by
    obtain ⟨us, hv, hr, h1⟩ := h a G w φ ho
    have hn : Hx H.length = none := hf _ (Nat.le_refl _) (by simp)
    have hun := hs.un _ hn
    have hst := hs.add H.length 0 0 (.bld T e false [] rest) (.cells (List.toArray (.pointer none :: .slice none 0 0 :: us)) T) hn
      ⟨w.heap.size, .slice none 0 0, us, setLoc_same _ _ _ _, heap_new w _, repVs_mono (Imm.le.refl _) (setLoc_le (hun 0)) _ _ hr, h1, hs.inv.fresh (Nat.le_refl _), by simp [Value.ownBlock], World.ownsRowF_nil _ _ _ _, fun g hg => (by cases hg), fun g hg => (by rw [setLoc_other (by omega), hun] at hg; cases hg), fun _ => rfl⟩
      (fun b hb => by
        rcases hb with ⟨c, hb⟩ | hb
        · rw [setLoc_same] at hb; injection hb with hb; injection hb with hb _; injection hb with hb; injection hb with hb _; exact hb.symm
        · rw [setLoc_other (by omega), hun] at hb; cases hb)
    rw [upd_new] at hK
    unfold Oper.wp
    rw [hv, Oper.upon_value]
    exact hK _ _ _ _ hst.1 hst.2 ⟨w.heap.size, 0, setLoc_same _ _ _ _, rfl⟩

/-! ### tests -/
def condP (b : Bool) (A : Prop) : Prop := match b with | true => A | false => False
theorem condP_intro {b : Bool} {A : Prop} (h : b = true) (k : A) : condP b A := by subst h; exact k
theorem condP_out {b : Bool} {A : Prop} (h : condP b A) : b = true ∧ A := by
  cases b
  · exact h.elim
  · exact ⟨rfl, h⟩
/-- By a bool. -/
def brP (b : Bool) (A B : Prop) : Prop := match b with
  | true => A
  | false => B
theorem brP_split {b : Bool} {A B : Prop} (h : b = true → A) (k : b = false → B) : brP b A B := by
  cases b
  · exact k rfl
  · exact h rfl
theorem brP_true {b : Bool} {A B : Prop} (h : b = true) (k : A) : brP b A B := by subst h; exact k
theorem brP_false {b : Bool} {A B : Prop} (h : b = false) (k : B) : brP b A B := by subst h; exact k
theorem brP_out {b : Bool} {A B : Prop} (h : brP b A B) : (b = true ∧ A) ∨ (b = false ∧ B) := by
  cases b
  · exact .inr ⟨rfl, h⟩
  · exact .inl ⟨rfl, h⟩
def PIdx {α : Type} (rows : List α) (i : Int) (K : α → Prop) : Prop := 0 ≤ i ∧ ∃ row, rows[i.toNat]? = some row ∧ K row
def PIdxN {α : Type} (rows : List α) (i : Nat) (K : α → Prop) : Prop := ∃ row, rows[i]? = some row ∧ K row
theorem PIdx.map {α β : Type} {l : List α} {f : α → β} {i : Nat} {x : α} {K : β → Prop} (h : l[i]? = some x) (k : K (f x)) : PIdx (l.map f) i K := ⟨by omega, f x, by simp [h], k⟩
theorem PIdx.at {α : Type} {l : List α} {i : Nat} {x : α} {K : α → Prop} (h : l[i]? = some x) (k : K x) : PIdx l i K := ⟨by omega, x, by simp [h], k⟩
theorem PIdxN.map {α β : Type} {l : List α} {f : α → β} {i : Nat} {x : α} {K : β → Prop} (h : l[i]? = some x) (k : K (f x)) : PIdxN (l.map f) i K := ⟨f x, by simp [h], k⟩

section
variable {P : Program} {tt : TT} {o : Oper} {ρ : Env} {H : List Ob} {K : Eff → Prop}
/-! ### loads -/
def pLoad (tt : TT) (t : TypeId) (X : V) (H : List Ob) (K : Eff → Prop) : Prop :=
  match tt t with
  | none => False
  | some e =>
    match X with
    | .ptr id off =>
      match H[id]? with
      | some (.box cells) =>
        match e.kind.agg with
        | true => condP (Nat.ble (off + e.size) cells.length) (K ⟨.agg ((cells.drop off).take e.size), [id], [], []⟩)
        | false =>
          match cells[off]? with
          | some c => K ⟨c, [id], [], []⟩
          | none => False
      | some (.bld _ _ _ _ rest) =>
        match e.kind.agg with
        | true => False
        | false => condP (Nat.ble 2 off) (match rest[off - 2]? with
          | some c => K ⟨c, [id], [], []⟩
          | none => False)
      | _ => False
    | .iptr row =>
      match e.kind.agg with
      | true => condP (Nat.ble e.size row.length) (K ⟨.agg ((row.take e.size).map V.of), [], [], []⟩)
      | false =>
        match row with
        | d :: _ => K ⟨V.of d, [], [], []⟩
        | [] => False
    | .d (.nptr row) =>
      match e.kind.agg with
      | true => condP (Nat.ble e.size row.length) (K ⟨.agg ((row.take e.size).map V.of), [], [], []⟩)
      | false =>
        match row with
        | d :: _ => K ⟨V.of d, [], [], []⟩
        | [] => False
    | .eptr id i off =>
      match H[id]? with
      | some (.parr _ rows) => PIdxN rows i fun row =>
        match e.kind.agg with
        | true => condP (Nat.ble (off + e.size) row.length) (K ⟨.agg (((row.drop off).take e.size).map V.of), [id], [], []⟩)
        | false =>
          match row.drop off with
          | d :: _ => K ⟨V.of d, [id], [], []⟩
          | [] => False
      | _ => False
    | _ => False

theorem gather {G : Imm} {φ : Loc} {f : Nat → Option Value} : ∀ (r : List D) (m : Nat), (∀ (j : Nat) d, r[j]? = some d → ∃ u, f (m + j) = some u ∧ d.rep G u) →
    ∃ us : List Value, us.length = r.length ∧ repVs G φ (r.map V.of) us ∧ (∀ u ∈ us, u.oneCell' = true) ∧ ∀ (j : Nat) u, us[j]? = some u → f (m + j) = some u
  | [], _, _ => ⟨[], rfl, rfl, by simp, by simp⟩
  | d :: ds, m, h => by
    obtain ⟨u, h1, h2⟩ := h 0 d rfl
    obtain ⟨us, g1, g2, g3, g4⟩ := gather (φ := φ) ds (m + 1) fun j d hj => by
      have := h (j + 1) d (by simpa using hj)
      rwa [show m + (j + 1) = m + 1 + j by omega] at this
    refine ⟨u :: us, by simp [g1], ⟨u, us, rfl, V.of_rep φ d u h2, g2⟩, ?_, ?_⟩
    · intro x hx
      rcases List.mem_cons.1 hx with rfl | hx
      · exact D.rep_one h2
      · exact g3 x hx
    · intro j x hj
      cases j with
      | zero => simp at hj; subst hj; simpa using h1
      | succ j =>
        have := g4 j x (by simpa using hj)
        rwa [show m + 1 + j = m + (j + 1) by omega] at this
theorem lt_of_get {α : Type} {l : List α} {i : Nat} {x : α} (h : l[i]? = some x) : i < l.length := (List.getElem?_eq_some_iff.1 h).1
theorem pLoad_sem (htt : TTok P tt) {t : TypeId} {x : Operand} {X : V} (ho : o.op = .load t x) (hx : ev ρ x = some X) (h : pLoad tt t X H K) : ∃ e, K e ∧ Tri P o ρ H e := by
  have hop : x ∈ o.op.operands := by rw [ho]; simp [Op.operands]
  have run : ∀ (a : Act) (b j : Nat) (w : World) (v : Value), a.eval x = .pointer (some ⟨b, j, none⟩) → (loadVar t ⟨b, j, none⟩).run P w = .ok v w → (execOp a.eval o).run P w = .ok (.value v) w := by
    intro a b j w v e1 e2
    unfold execOp
    rw [ho]
    simp [Instr.loadAt, Instr.sureAddr, e1, e2]
  unfold pLoad at h
  split at h
  · exact h.elim
  rename_i e he
  split at h
  · rename_i id off
    split at h
    · rename_i cells hH
      have hid := lt_of_get hH
      split at h
      · rename_i hagg
        obtain ⟨hle, hk⟩ := condP_out h
        have hle := Nat.le_of_ble_eq_true hle
        refine ⟨_, hk, tri_val (by simpa using hid) fun a G w φ Hx hs hr ha => ?_⟩
        obtain ⟨b, c, h1, h2⟩ := hr x _ hop hx
        obtain ⟨b', c', T, us, k1, k2, k3, k4, k5⟩ := hs.holds id _ ((ha id (by simp)).trans hH)
        rw [h1] at k1; injection k1 with k1; injection k1 with k1 k1'; injection k1 with k1; injection k1 with k1; subst k1
        have hl := repVs_len k3
        refine ⟨.agg ((us.drop off).take e.size).toArray, run a b off w _ h2 (run_loadVar_many w htt he hagg b off _ (by simp; omega) fun j v hj => ?_), ⟨_, rfl, repVs_take (repVs_drop k3 _) _, fun u hu => k4 u (List.mem_of_mem_drop (List.mem_of_mem_take hu))⟩⟩
        rw [cell_us w k2, ← List.getElem?_drop]
        rw [List.getElem?_take] at hj
        split at hj
        · exact hj
        · cases hj
      · rename_i hagg
        split at h
        · rename_i c hc
          refine ⟨_, h, tri_val (by simpa using hid) fun a G w φ Hx hs hr ha => ?_⟩
          obtain ⟨b, c', h1, h2⟩ := hr x _ hop hx
          obtain ⟨b', c'', T, us, k1, k2, k3, k4, k5⟩ := hs.holds id _ ((ha id (by simp)).trans hH)
          rw [h1] at k1; injection k1 with k1; injection k1 with k1 k1'; injection k1 with k1; injection k1 with k1; subst k1
          obtain ⟨u, hu, hru⟩ := repVs_get k3 off c hc
          exact ⟨u, run a b off w _ h2 (run_loadVar_one w htt he hagg b off (by rw [cell_us w k2, hu])), hru⟩
        · exact h.elim
    · rename_i T0 e0 u0 s0 cells hH
      have hid := lt_of_get hH
      split at h
      · exact h.elim
      · rename_i hagg
        obtain ⟨hle, h⟩ := condP_out h
        have hle := Nat.le_of_ble_eq_true hle
        split at h
        · rename_i c hc
          refine ⟨_, h, tri_val (by simpa using hid) fun a G w φ Hx hs hr ha => ?_⟩
          obtain ⟨b, c', h1, h2⟩ := hr x _ hop hx
          obtain ⟨b', v, us, k1, k2, k3, k4, k5, _⟩ := hs.holds id _ ((ha id (by simp)).trans hH)
          rw [h1] at k1; injection k1 with k1; injection k1 with k1 k1'; injection k1 with k1; injection k1 with k1; subst k1
          obtain ⟨u, hu, hru⟩ := repVs_get k3 (off - 2) c hc
          refine ⟨u, run a b off w _ h2 (run_loadVar_one w htt he hagg b off ?_), hru⟩
          rw [cell_us w k2, show off = (off - 2) + 1 + 1 by omega]
          simpa using hu
        · exact h.elim
    · exact h.elim
  · rename_i row
    split at h
    · rename_i hagg
      obtain ⟨hle, hk⟩ := condP_out h
      have hle := Nat.le_of_ble_eq_true hle
      refine ⟨_, hk, tri_val (by simp) fun a G w φ Hx hs hr ha => ?_⟩
      obtain ⟨b, j, h1, h2⟩ := hr x _ hop hx
      obtain ⟨us, g1, g2, g3, g4⟩ := repVs_d (φ := φ) (repRow_take h2 e.size)
      refine ⟨_, run a b j w _ h1 (run_loadVar_many w htt he hagg b j us (by rw [g1]; simp; omega) fun i v hi => hs.inv _ _ _ (g4 i v hi) (g3 v (List.mem_of_getElem? hi))), ⟨us, rfl, g2, g3⟩⟩
    · rename_i hagg
      split at h
      · rename_i d ds
        refine ⟨_, h, tri_val (by simp) fun a G w φ Hx hs hr ha => ?_⟩
        obtain ⟨b, j, h1, ⟨u, h2, h3⟩, _⟩ := hr x _ hop hx
        exact ⟨u, run a b j w _ h1 (run_loadVar_one w htt he hagg b j (hs.inv _ _ _ h2 (D.rep_one h3))), V.of_rep φ _ _ h3⟩
      · exact h.elim
  · rename_i row
    split at h
    · rename_i hagg
      obtain ⟨hle, hk⟩ := condP_out h
      have hle := Nat.le_of_ble_eq_true hle
      refine ⟨_, hk, tri_val (by simp) fun a G w φ Hx hs hr ha => ?_⟩
      obtain ⟨b, j, h1, h2, _⟩ := hr x _ hop hx
      obtain ⟨us, g1, g2, g3, g4⟩ := repVs_d (φ := φ) (repRow_take h2 e.size)
      refine ⟨_, run a b j w _ h1 (run_loadVar_many w htt he hagg b j us (by rw [g1]; simp; omega) fun i v hi => hs.inv _ _ _ (g4 i v hi) (g3 v (List.mem_of_getElem? hi))), ⟨us, rfl, g2, g3⟩⟩
    · rename_i hagg
      split at h
      · rename_i d ds
        refine ⟨_, h, tri_val (by simp) fun a G w φ Hx hs hr ha => ?_⟩
        obtain ⟨b, j, h1, ⟨⟨u, h2, h3⟩, _⟩, _⟩ := hr x _ hop hx
        exact ⟨u, run a b j w _ h1 (run_loadVar_one w htt he hagg b j (hs.inv _ _ _ h2 (D.rep_one h3))), V.of_rep φ _ _ h3⟩
      · exact h.elim
  · rename_i id i off
    split at h
    · rename_i esz rows hH
      have hid := lt_of_get hH
      obtain ⟨row, hrow, h⟩ := h
      have key : ∀ (G : Imm) (w : World) (φ : Loc) (Hx : Hp) (v : Value), Sit G w φ Hx → Hx id = H[id]? → V.rep G φ (.eptr id i off) v → ∃ b us T, v = .pointer (some ⟨b, i * esz + off, none⟩) ∧ w.heap[b]? = some (.cells (List.toArray us) T (0, 0)) ∧ ∀ (j : Nat) d, row[j]? = some d → ∃ u, us[i * esz + j]? = some u ∧ d.rep G u := by
        intro G w φ Hx v hs hHx hv
        obtain ⟨b, c, h1, h2⟩ := hv
        obtain ⟨b', T, us, k1, k2, k3, k4, k5⟩ := hs.holds id _ (hHx.trans hH)
        rw [h1] at k1; injection k1 with k1; injection k1 with k1 k1'; injection k1 with k1; injection k1 with k1; subst k1; subst k1'
        exact ⟨b, us, T, h2, k2, (k4 i row hrow).2⟩
      split at h
      · rename_i hagg
        obtain ⟨hle, hk⟩ := condP_out h
        have hle := Nat.le_of_ble_eq_true hle
        refine ⟨_, hk, tri_val (by simpa using hid) fun a G w φ Hx hs hr ha => ?_⟩
        obtain ⟨b, us, T, h1, h2, h3⟩ := key G w φ Hx _ hs (ha id (by simp)) (hr x _ hop hx)
        obtain ⟨vs, g1, g2, g3, g4⟩ := gather (G := G) (φ := φ) (f := fun k => us[k]?) ((row.drop off).take e.size) (i * esz + off) (fun j d hj => by
          rw [List.getElem?_take] at hj
          split at hj
          · rw [List.getElem?_drop] at hj
            obtain ⟨u, q1, q2⟩ := h3 _ d hj
            exact ⟨u, by rw [Nat.add_assoc]; exact q1, q2⟩
          · cases hj)
        exact ⟨_, run a b _ w _ h1 (run_loadVar_many w htt he hagg b _ vs (by rw [g1]; simp; omega) fun j v hj => by rw [cell_us w h2]; exact g4 j v hj), ⟨vs, rfl, g2, g3⟩⟩
      · rename_i hagg
        split at h
        · rename_i d ds hd
          refine ⟨_, h, tri_val (by simpa using hid) fun a G w φ Hx hs hr ha => ?_⟩
          obtain ⟨b, us, T, h1, h2, h3⟩ := key G w φ Hx _ hs (ha id (by simp)) (hr x _ hop hx)
          have h0 : row[off]? = some d := by
            have : (row.drop off)[0]? = some d := by rw [hd]; rfl
            simpa using this
          obtain ⟨u, q1, q2⟩ := h3 off d h0
          exact ⟨u, run a b _ w _ h1 (run_loadVar_one w htt he hagg b _ (by rw [cell_us w h2]; exact q1)), V.of_rep φ _ _ q2⟩
        · exact h.elim
    · exact h.elim
  · exact h.elim
end
end Go.Proofs.YtblnfodnkacbbaaGreatDoor.Q

namespace Go.Proofs.YtblnfodnkacbbaaGreatDoor.Q
variable [Amb]

mutual
def V.toD : V → Option D
  | .d x => some x
  | .fsl rows => some (.sl rows)
  | .gsl rows _ => some (.sl rows)
  | .iptr row => some (.ptr row)
  | .fn f x y => match toDs x with
    | some a => match toDs y with
      | some b => some (.fn f a b)
      | none => none
    | none => none
  | _ => none
def toDs : List V → Option (List D)
  | [] => some []
  | x :: xs => match x.toD with
    | some d => match toDs xs with
      | some ds => some (d :: ds)
      | none => none
    | none => none
end
mutual
theorem V.toD_rep {G : Imm} {φ : Loc} : ∀ {x : V} {d : D} {v : Value}, x.rep G φ v → x.toD = some d → d.rep G v
  | .d x, d, v, h, k => by injection k with k; subst k; exact h
  | .fsl rows, d, v, h, k => by injection k with k; subst k; obtain ⟨A, e, h1⟩ := h; exact ⟨Addr0 A, _, e, Nat.le_refl _, a0 h1⟩
  | .gsl rows t, d, v, h, k => by injection k with k; subst k; obtain ⟨A, c, _, e, h1, h2⟩ := h; exact ⟨Addr0 A, c, e, h1, a0 h2⟩
  | .iptr row, d, v, h, k => by injection k with k; subst k; exact h
  | .fn f x y, d, v, h, k => by
    unfold V.toD at k
    split at k
    · rename_i a ha
      split at k
      · rename_i b hb
        injection k with k; subst k
        obtain ⟨us, vs, e, h1, h2⟩ := h
        exact ⟨us, vs, e, toDs_repDc h1 ha, toDs_repDc h2 hb⟩
      · cases k
    · cases k
  | .agg _, d, v, h, k => by cases k
  | .tup _, d, v, h, k => by cases k
  | .ptr _ _, d, v, h, k => by cases k
  | .eptr _ _ _, d, v, h, k => by cases k
  | .vsl _, d, v, h, k => by cases k
  | .arr _ _ _, d, v, h, k => by cases k
  | .map _, d, v, h, k => by cases k
  | .yld _, d, v, h, k => by cases k
  | .undef, d, v, h, k => by cases k
  | .lookT _ _, d, v, h, k => by cases k
  | .lookV _ _, d, v, h, k => by cases k
  | .lookB _, d, v, h, k => by cases k
theorem toDs_repDc {G : Imm} {φ : Loc} : ∀ {xs : List V} {ds : List D} {us : List Value}, repVs G φ xs us → toDs xs = some ds → repDc G ds us
  | [], ds, us, h, k => by simp [toDs] at k; subst k; exact h
  | x :: xs, ds, us, ⟨u, us', e, h1, h2⟩, k => by
    unfold toDs at k
    split at k
    · rename_i d hd
      split at k
      · rename_i ds' hds
        injection k with k; subst k
        exact ⟨u, us', e, V.toD_rep h1 hd, toDs_repDc h2 hds⟩
      · cases k
    · cases k
end
theorem toDs_rep {G : Imm} {φ : Loc} : ∀ {xs : List V} {ds : List D} {us : List Value}, repVs G φ xs us → toDs xs = some ds → ds.length = xs.length ∧ ∀ (j : Nat) d, ds[j]? = some d → ∃ u, us[j]? = some u ∧ d.rep G u
  | [], ds, us, h, k => by simp [toDs] at k; subst k; exact ⟨rfl, by simp⟩
  | x :: xs, ds, us, ⟨u, us', e, h1, h2⟩, k => by
    unfold toDs at k
    split at k
    · rename_i d hd
      split at k
      · rename_i ds' hds
        injection k with k; subst k
        obtain ⟨g1, g2⟩ := toDs_rep h2 hds
        refine ⟨by simp [g1], fun j d' hj => ?_⟩
        rw [e]
        cases j with
        | zero => simp at hj; subst hj; exact ⟨u, rfl, V.toD_rep h1 hd⟩
        | succ j => simpa using g2 j d' (by simpa using hj)
      · cases k
    · cases k

theorem upd_one (H : Hp) (base id : Nat) (x : V) (rd : List Nat) (ob : Ob) : upd H base ⟨x, rd, [(id, ob)], []⟩ = fun i => if i = id then some ob else H i := by
  funext i
  have e : lkO [(id, ob)] i = if id = i then some ob else none := lkO_cons id ob [] i
  simp only [upd, e, List.length_nil, Nat.add_zero]
  by_cases h : id = i
  · subst h; simp
  · rw [if_neg h, if_neg (by omega), if_neg (fun e => h e.symm)]
theorem Inv.setRow {G : Imm} {w : World} (h : Inv G w) {b : Nat} (hb : ∀ o, G b o = none) (cs : Array Value) : Inv G (w.setRow b cs) := h.of (Imm.le.refl _) (fun b' cs' T fr hb' h0 hG => by
  have hne : b' ≠ b := fun e => by have := hG 0 h0; rw [e, hb] at this; cases this
  exact setRow_other w b b' cs hne) fun b' o v hg => by
  have hne : b' ≠ b := fun e => by rw [e, hb] at hg; cases hg
  refine (h.1 b' o v hg).go (Imm.le.refl _) (fun h1 => ?_) fun _ => setRow_other w b b' cs hne
  rw [cell_setRow_other w b cs ⟨b', o, none⟩ hne]
  exact h1
/-- An object of a block of its own is written. -/
theorem Sit.write {G : Imm} {w : World} {φ : Loc} {H : Hp} (hs : Sit G w φ H) (id b : Nat) (ob ob' : Ob) (us : Array Value) (hH : H id = some ob) (hb : Owns φ id ob b) (hG : ∀ o, G b o = none)
    (hh : Holds G (w.setRow b us) φ id ob') (ho : ∀ b', Owns φ id ob' b' → b' = b) :
    Sit G (w.setRow b us) φ (fun i => if i = id then some ob' else H i) ∧ Goes G w φ H G (w.setRow b us) φ (fun i => if i = id then some ob' else H i) := by
  refine hs.step (fun i => i = id) (Imm.le.refl _) (Loc.le.refl _) (fun _ _ _ => rfl) rfl rfl rfl (by rw [setRow_size]; exact Nat.le_refl _) ?_ (fun i hi => if_neg hi) (hs.inv.setRow hG us) ?_ ?_ ?_ ?_
  · intro k hk hn
    refine ⟨setRow_other w b k us ?_, fun _ => rfl⟩
    rintro rfl
    exact hn id ob rfl hH hb
  · intro i ob1 hi h1; subst hi; simp at h1; subst h1; exact hh
  · intro i j ob1 ob2 b hi hj hij; exact absurd (hi.trans hj.symm) hij
  · intro i ob1 b1 hi h1 h2
    subst hi; simp at h1; subst h1
    have e := ho _ h2; subst e
    exact .inl ⟨i, ob, rfl, hH, hb⟩
  · intro i hi h1; subst hi; simp at h1

/-- .. where the object has other blocks beside. -/
theorem Sit.writeO {G : Imm} {w : World} {φ : Loc} {H : Hp} (hs : Sit G w φ H) (id b : Nat) (ob ob' : Ob) (us : Array Value) (hH : H id = some ob) (hb : Owns φ id ob b) (hG : ∀ o, G b o = none)
    (hh : Holds G (w.setRow b us) φ id ob') (ho : ∀ b', Owns φ id ob' b' → Owns φ id ob b') :
    Sit G (w.setRow b us) φ (fun i => if i = id then some ob' else H i) ∧ Goes G w φ H G (w.setRow b us) φ (fun i => if i = id then some ob' else H i) := by
  refine hs.step (fun i => i = id) (Imm.le.refl _) (Loc.le.refl _) (fun _ _ _ => rfl) rfl rfl rfl (by rw [setRow_size]; exact Nat.le_refl _) ?_ (fun i hi => if_neg hi) (hs.inv.setRow hG us) ?_ ?_ ?_ ?_
  · intro k hk hn
    refine ⟨setRow_other w b k us ?_, fun _ => rfl⟩
    rintro rfl
    exact hn id ob rfl hH hb
  · intro i ob1 hi h1; subst hi; simp at h1; subst h1; exact hh
  · intro i j ob1 ob2 b hi hj hij; exact absurd (hi.trans hj.symm) hij
  · intro i ob1 b1 hi h1 h2
    subst hi; simp at h1; subst h1
    exact .inl ⟨i, ob, rfl, hH, ho _ h2⟩
  · intro i hi h1; subst hi; simp at h1

section
variable {P : Program} {tt : TT} {o : Oper} {ρ : Env} {H : List Ob} {K : Eff → Prop}

def pStore (tt : TT) (t : TypeId) (X Y : V) (H : List Ob) (K : Eff → Prop) : Prop :=
  match tt t with
  | none => False
  | some e =>
    match X with
    | .ptr id off =>
      match H[id]? with
      | some (.box cells) => condP (Y.cellB && Nat.beq Y.cells.length e.size && Nat.ble (off + e.size) cells.length)
          (K ⟨.undef, [], [(id, .box (cells.take off ++ Y.cells ++ cells.drop (off + e.size)))], []⟩)
      | some (.bld T b0 u0 s0 rest) => condP (Y.cellB && Nat.beq Y.cells.length e.size && Nat.ble 2 off && Nat.ble (off + e.size) (rest.length + 2))
          (K ⟨.undef, [], [(id, .bld T b0 u0 s0 (rest.take (off - 2) ++ Y.cells ++ rest.drop (off - 2 + e.size)))], []⟩)
      | _ => False
    | .eptr id i off =>
      match H[id]?, toDs Y.cells with
      | some (.parr esz rows), some ds => PIdxN rows i fun row => condP (Y.cellB && Nat.beq ds.length e.size && Nat.ble (off + e.size) row.length)
          (K ⟨.undef, [], [(id, .parr esz (rows.set i (row.take off ++ ds ++ row.drop (off + e.size))))], []⟩)
      | _, _ => False
    | _ => False
theorem mid_get {α : Type} (l m : List α) (o n : Nat) (hm : m.length = n) (ho : o + n ≤ l.length) (j : Nat) : (l.take o ++ m ++ l.drop (o + n))[j]? = if j < o then l[j]? else if j < o + n then m[j - o]? else l[j]? := by
  have h1 : (l.take o).length = o := by simp; omega
  rw [List.append_assoc, List.getElem?_append, h1]
  by_cases hj : j < o
  · rw [if_pos hj, if_pos hj, List.getElem?_take, if_pos hj]
  · rw [if_neg hj, if_neg hj, List.getElem?_append, hm]
    by_cases hk : j < o + n
    · rw [if_pos hk, if_pos (by omega)]
    · rw [if_neg hk, if_neg (by omega), List.getElem?_drop]
      congr 1; omega
theorem pStore_sem (htt : TTok P tt) {t : TypeId} {x y : Operand} {X Y : V} (ho : o.op = .store t x y) (hx : ev ρ x = some X) (hy : ev ρ y = some Y) (h : pStore tt t X Y H K) : ∃ e, K e ∧ Tri P o ρ H e := by
  have hop : x ∈ o.op.operands := by rw [ho]; simp [Op.operands]
  have hop' : y ∈ o.op.operands := by rw [ho]; simp [Op.operands]
  have run : ∀ (a : Act) (b j : Nat) (w w' : World), a.eval x = .pointer (some ⟨b, j, none⟩) → (storeVar t ⟨b, j, none⟩ (a.eval y)).run P w = .ok () w' → (execOp a.eval o).run P w = .ok .skip w' := by
    intro a b j w w' e1 e2
    unfold execOp
    rw [ho]
    simp [Instr.storeAt, Instr.sureAddr, e1, e2]
  unfold pStore at h
  split at h
  · exact h.elim
  rename_i e he
  split at h
  · rename_i id off
    split at h
    · rename_i cells hH
      obtain ⟨hc, hk⟩ := condP_out h
      simp only [Bool.and_eq_true] at hc
      obtain ⟨⟨c1, c2⟩, c3⟩ := hc
      have c2 := Nat.eq_of_beq_eq_true c2
      have c3 := Nat.le_of_ble_eq_true c3
      have hid := lt_of_get hH
      refine ⟨_, hk, ⟨by simp, by simpa using hid, fun a G w φ Hx K Q hs hr ha hf hK => ?_⟩⟩
      obtain ⟨b, c, h1, h2⟩ := hr x _ hop hx
      have hHx : Hx id = some (.box cells) := (ha id (.inr ⟨_, List.mem_singleton.2 rfl, rfl⟩)).trans hH
      obtain ⟨b', c', T, us, k1, k2, k3, k4, k5⟩ := hs.holds id _ hHx
      rw [h1] at k1; injection k1 with k1; injection k1 with k1 k1'; injection k1 with k1; injection k1 with k1; subst k1
      obtain ⟨r1, r2⟩ := V.cells_rep' (hr y _ hop' hy) c1
      have hl := repVs_len k3
      have hvl := repVs_len r1
      have hst := run_storeVar_at htt he w b off T (0, 0) us (a.eval y) r2 (by rw [hvl, c2]) k2 (Nat.zero_le _) (by omega)
      rw [upd_one] at hK
      have hw := hs.write id b _ (.box (cells.take off ++ Y.cells ++ cells.drop (off + e.size))) (us.take off ++ (a.eval y).cells.toList ++ us.drop (off + e.size)).toArray hHx (by simp [Owns, own, h1]) k5
        ⟨b, c, T, _, h1, setRow_heap w b _ _ T _ k2, repVs_append (repVs_append (repVs_take k3 _) r1) (repVs_drop k3 _), fun u hu => by
          simp only [List.mem_append] at hu
          rcases hu with (hu | hu) | hu
          · exact k4 u (List.mem_of_mem_take hu)
          · exact r2 u hu
          · exact k4 u (List.mem_of_mem_drop hu), k5⟩ (fun b' hb' => by simp [Owns, own, h1] at hb'; exact hb'.symm)
      unfold Oper.wp
      rw [run a b off w _ h2 hst, Oper.upon_skip]
      exact hK undef _ _ _ hw.1 hw.2 trivial
    · rename_i T0 b0 u0 s0 rest hH
      obtain ⟨hc, hk⟩ := condP_out h
      simp only [Bool.and_eq_true] at hc
      obtain ⟨⟨⟨c1, c2⟩, c4⟩, c3⟩ := hc
      have c2 := Nat.eq_of_beq_eq_true c2
      have c3 := Nat.le_of_ble_eq_true c3
      have c4 := Nat.le_of_ble_eq_true c4
      have hid := lt_of_get hH
      refine ⟨_, hk, ⟨by simp, by simpa using hid, fun a G w φ Hx K Q hs hr ha hf hK => ?_⟩⟩
      obtain ⟨b, c, h1, h2⟩ := hr x _ hop hx
      have hHx : Hx id = some (.bld T0 b0 u0 s0 rest) := (ha id (.inr ⟨_, List.mem_singleton.2 rfl, rfl⟩)).trans hH
      obtain ⟨b', v, us, k1, k2, k3, k4, k5, k6, k7, k8, k9, k10⟩ := hs.holds id _ hHx
      rw [h1] at k1; injection k1 with k1; injection k1 with k1 k1'; injection k1 with k1; injection k1 with k1; subst k1
      subst k1'
      obtain ⟨r1, r2⟩ := V.cells_rep' (hr y _ hop' hy) c1
      have hl := repVs_len k3
      have hvl := repVs_len r1
      have hst := run_storeVar_at htt he w b off T0 (0, 0) (bldP b u0 :: v :: us) (a.eval y) r2 (by rw [hvl, c2]) k2 (Nat.zero_le _) (by simp; omega)
      have hrow : (bldP b u0 :: v :: us).take off ++ (a.eval y).cells.toList ++ (bldP b u0 :: v :: us).drop (off + e.size) = bldP b u0 :: v :: (us.take (off - 2) ++ (a.eval y).cells.toList ++ us.drop (off - 2 + e.size)) := by
        obtain ⟨m, rfl⟩ : ∃ m, off = m + 2 := ⟨off - 2, by omega⟩
        simp [show m + 2 + e.size = m + e.size + 2 by omega]
      rw [hrow] at hst
      rw [upd_one] at hK
      have hw := hs.writeO id b _ (.bld T0 b0 u0 s0 (rest.take (off - 2) ++ Y.cells ++ rest.drop (off - 2 + e.size))) (bldP b u0 :: v :: (us.take (off - 2) ++ (a.eval y).cells.toList ++ us.drop (off - 2 + e.size))).toArray hHx (.inl ⟨_, h1⟩) k5
        ⟨b, v, _, h1, setRow_heap w b _ _ T0 _ k2, repVs_append (repVs_append (repVs_take k3 _) r1) (repVs_drop k3 _), fun u hu => by
          simp only [List.mem_append] at hu
          rcases hu with (hu | hu) | hu
          · exact k4 u (List.mem_of_mem_take hu)
          · exact r2 u hu
          · exact k4 u (List.mem_of_mem_drop hu), k5, k6, ownsF_keep k7 fun g hg => setRow_other w b g _ (fun e => k6 (e ▸ hg)), k8, fun g hg => by rw [setRow_size]; exact k9 g hg, k10⟩ (fun b' hb' => hb')
      unfold Oper.wp
      rw [run a b off w _ h2 hst, Oper.upon_skip]
      exact hK undef _ _ _ hw.1 hw.2 trivial
    · exact h.elim
  · rename_i id i off
    split at h
    · rename_i esz rows ds hH hds
      obtain ⟨row, hrow, h⟩ := h
      obtain ⟨hc, hk⟩ := condP_out h
      simp only [Bool.and_eq_true] at hc
      obtain ⟨⟨c1, c2⟩, c3⟩ := hc
      have c2 := Nat.eq_of_beq_eq_true c2
      have c3 := Nat.le_of_ble_eq_true c3
      have hid := lt_of_get hH
      refine ⟨_, hk, ⟨by simp, by simpa using hid, fun a G w φ Hx K Q hs hr ha hf hK => ?_⟩⟩
      obtain ⟨b, c, h1, h2⟩ := hr x _ hop hx
      have hHx : Hx id = some (.parr esz rows) := (ha id (.inr ⟨_, List.mem_singleton.2 rfl, rfl⟩)).trans hH
      obtain ⟨b', T, us, k1, k2, k3, k4, k5⟩ := hs.holds id _ hHx
      rw [h1] at k1; injection k1 with k1; injection k1 with k1 k1'; injection k1 with k1; injection k1 with k1; subst k1; subst k1'
      obtain ⟨r1, r2⟩ := V.cells_rep' (hr y _ hop' hy) c1
      obtain ⟨d1, d2⟩ := toDs_rep r1 hds
      have hvl := repVs_len r1
      have hrl := (k4 i row hrow).1
      have hilt := lt_of_get hrow
      have hmul : (i + 1) * c ≤ rows.length * c := Nat.mul_le_mul_right _ hilt
      rw [Nat.succ_mul] at hmul
      have hfit : i * c + off + e.size ≤ us.length := by omega
      have hst := run_storeVar_at htt he w b (i * c + off) T (0, 0) us (a.eval y) r2 (by omega) k2 (Nat.zero_le _) hfit
      rw [upd_one] at hK
      have hw := hs.write id b _ (.parr c (rows.set i (row.take off ++ ds ++ row.drop (off + e.size)))) (us.take (i * c + off) ++ (a.eval y).cells.toList ++ us.drop (i * c + off + e.size)).toArray hHx (by simp [Owns, own, h1]) k5
        ⟨b, T, _, h1, setRow_heap w b _ _ T _ k2, by rw [List.length_append, List.length_append, List.length_take, List.length_drop, List.length_set]; omega, fun j r hj => by
          rw [List.getElem?_set] at hj
          by_cases hij : i = j
          · subst hij
            simp only [if_true, hilt] at hj
            injection hj with hj
            subst hj
            refine ⟨by simp; omega, fun m d hm => ?_⟩
            rw [mid_get row ds off e.size c2 c3] at hm
            rw [mid_get us (a.eval y).cells.toList (i * c + off) e.size (by omega) hfit]
            by_cases m1 : m < off
            · rw [if_pos m1] at hm
              rw [if_pos (by omega)]
              exact (k4 i row hrow).2 m d hm
            · rw [if_neg m1] at hm
              rw [if_neg (by omega)]
              by_cases m2 : m < off + e.size
              · rw [if_pos m2] at hm
                rw [if_pos (by omega), show i * c + m - (i * c + off) = m - off by omega]
                exact d2 _ d hm
              · rw [if_neg m2] at hm
                rw [if_neg (by omega)]
                exact (k4 i row hrow).2 m d hm
          · simp only [hij, if_false] at hj
            refine ⟨(k4 j r hj).1, fun m d hm => ?_⟩
            have hrl2 := (k4 j r hj).1
            have hm1 := lt_of_get hm
            have hjl := lt_of_get hj
            rw [mid_get us (a.eval y).cells.toList (i * c + off) e.size (by omega) hfit]
            rcases Nat.lt_or_gt_of_ne hij with hlt | hgt
            · have : (i + 1) * c ≤ j * c := Nat.mul_le_mul_right _ hlt
              rw [Nat.succ_mul] at this
              rw [if_neg (by omega), if_neg (by omega)]
              exact (k4 j r hj).2 m d hm
            · have : (j + 1) * c ≤ i * c := Nat.mul_le_mul_right _ hgt
              rw [Nat.succ_mul] at this
              rw [if_pos (by omega)]
              exact (k4 j r hj).2 m d hm, k5⟩ (fun b' hb' => by simp [Owns, own, h1] at hb'; exact hb'.symm)
      unfold Oper.wp
      rw [run a b _ w _ h2 hst, Oper.upon_skip]
      exact hK undef _ _ _ hw.1 hw.2 trivial
    · exact h.elim
  · exact h.elim
end
end Go.Proofs.YtblnfodnkacbbaaGreatDoor.Q

namespace Go.Proofs.YtblnfodnkacbbaaGreatDoor.Q
variable [Amb]
section
variable {P : Program} {tt : TT} {o : Oper} {ρ : Env} {H : List Ob} {K : Eff → Prop}
/-- A value, nothing looked at. -/
def kv (K : Eff → Prop) (x : V) : Prop := K ⟨x, [], [], []⟩
/-- Whatever the operands are. -/
theorem kv_sem {x : V} (h : kv K x) (k : ∀ (a : Act) (G : Imm) (w : World) (φ : Loc), Inv G w → OpRep o ρ a G φ → ∃ v, (execOp a.eval o).run P w = .ok (.value v) w ∧ x.rep G φ v) : ∃ e, K e ∧ Tri P o ρ H e :=
  ⟨_, h, tri_val (by simp) fun a G w φ Hx hs hr _ => k a G w φ hs.inv hr⟩

/-- A bool: from here on it is one or the other. -/
def kb (K : Eff → Prop) (b : Bool) : Prop := brP b (kv K (.d (.bool true))) (kv K (.d (.bool false)))
theorem kb_out {b : Bool} (h : kb K b) : kv K (.d (.bool b)) := by
  cases b
  · exact h
  · exact h
theorem pMove_sem {x : Operand} {X : V} (ho : o.op = .move x ∨ o.op = .assign x) (hx : ev ρ x = some X) (h : kv K X) : ∃ e, K e ∧ Tri P o ρ H e :=
  kv_sem h fun a G w φ hi hr => ⟨a.eval x, by unfold execOp; rcases ho with ho | ho <;> rw [ho] <;> rfl, hr x X (by rcases ho with ho | ho <;> rw [ho] <;> simp [Op.operands]) hx⟩

/-! ### whole numbers, bools, strings -/
def pInt (op : BinOp) (k : IntKind) (a b : Int) (K : Eff → Prop) : Prop :=
  match op with
  | .add => kv K (.d (.int k (k.wrap (a + b))))
  | .sub => kv K (.d (.int k (k.wrap (a - b))))
  | .mul => kv K (.d (.int k (k.wrap (a * b))))
  | .quo => b ≠ 0 ∧ kv K (.d (.int k (k.wrap (a.tdiv b))))
  | .rem => b ≠ 0 ∧ kv K (.d (.int k (a.tmod b)))
  | .eql => kb K (a == b)
  | .neq => kb K (a != b)
  | .lss => kb K (decide (a < b))
  | .leq => kb K (decide (a ≤ b))
  | .gtr => kb K (decide (a > b))
  | .geq => kb K (decide (a ≥ b))
  | .and => kv K (.d (.int k (bits .and k a b)))
  | .or => kv K (.d (.int k (bits .or k a b)))
  | .xor => kv K (.d (.int k (bits .xor k a b)))
  | .andNot => kv K (.d (.int k (bits .andNot k a b)))
  | _ => False
def pStr (op : BinOp) (a b : List UInt8) (K : Eff → Prop) : Prop :=
  match op with
  | .add => a.length + b.length ≤ 4611686018427387904 ∧ kv K (.d (.str (a ++ b)))
  | .eql => kb K (a == b)
  | .neq => kb K (!(a == b))
  | .lss => kb K (Op.bytesLess a b)
  | .leq => kb K (Op.bytesLess a b || a == b)
  | .gtr => kb K (!(Op.bytesLess a b || a == b))
  | .geq => kb K (!(Op.bytesLess a b))
  | _ => False
def kindEq : IntKind → IntKind → Bool
  | .i8, .i8 | .i16, .i16 | .i32, .i32 | .i64, .i64 | .u8, .u8 | .u16, .u16 | .u32, .u32 | .u64, .u64 => true
  | _, _ => false
theorem kindEq_spec {a b : IntKind} (h : kindEq a b = true) : a = b := by cases a <;> cases b <;> first | rfl | cases h
/-- Are cells the same (numbers, bools, strings)? -/
def eqD : D → D → Option Bool
  | .int k a, .int j b => bif kindEq k j then some (a == b) else none
  | .bool a, .bool b => some (a == b)
  | .str a, .str b => some (a == b)
  | _, _ => none
/-- Are two structs the same, field by field? -/
def eqRow (tt : TT) : List (Nat × TypeId) → List D → List D → Option Bool
  | [], _, _ => some true
  | (o, t) :: fs, xs, ys => match tt t with
    | some e => match e.kind, xs[o]?, ys[o]? with
      | .int _, some (.int k a), some (.int j b) => match kindEq k j, eqRow tt fs xs ys with
        | true, some r => some (a == b && r)
        | _, _ => none
      | .bool, some (.bool a), some (.bool b) => match eqRow tt fs xs ys with
        | some r => some (a == b && r)
        | _ => none
      | .str, some (.str a), some (.str b) => match eqRow tt fs xs ys with
        | some r => some (a == b && r)
        | _ => none
      | _, _, _ => none
    | none => none
def isShift : BinOp → Bool
  | .shl | .shr => true
  | _ => false
def pShift (op : BinOp) (k : IntKind) (a b : Int) (K : Eff → Prop) : Prop :=
  match op with
  | .shl => 0 ≤ b ∧ kv K (.d (.int k (k.wrap (a * 2 ^ (min b.toNat k.bits)))))
  | .shr => 0 ≤ b ∧ kv K (.d (.int k (a.fdiv (2 ^ (min b.toNat k.bits)))))
  | _ => False
def pBin (tt : TT) (op : BinOp) (t : TypeId) (X Y : V) (K : Eff → Prop) : Prop :=
  match X, Y with
  | .d (.int k a), .d (.int j b) => bif isShift op then pShift op k a b K else condP (kindEq k j) (pInt op k a b K)
  | .d (.str a), .d (.str b) => pStr op a b K
  | .d (.bool a), .d (.bool b) =>
    match tt t with
    | some e => match e.kind, op with
      | .bool, .eql => kb K (a == b)
      | .bool, .neq => kb K (!(a == b))
      | _, _ => False
    | none => False
  | .agg cs, .agg es =>
    match tt t with
    | some e => match e.cmp, e.kind, toDs cs, toDs es with
      | true, .struct fs, some xs, some ys => match eqRow tt fs xs ys, op with
        | some b, .eql => kb K b
        | some b, .neq => kb K (!b)
        | _, _ => False
      | _, _, _, _ => False
    | none => False
  | _, _ => False
theorem mk_list (s : List UInt8) : (ByteArray.mk s.toArray).toList = s := by
  rw [ByteArray.toList_eq]
theorem mkK_bool {d : TypeDesc} (h : mkK d = .bool) : d = .bool := by cases d <;> simp [mkK] at h; rfl
theorem mkK_int0 {d : TypeDesc} {k : IntKind} (h : mkK d = .int k) : d = .int k := by cases d <;> simp [mkK] at h; rw [h]
theorem mkK_str0 {d : TypeDesc} (h : mkK d = .str) : d = .string := by cases d <;> simp [mkK] at h; rfl
theorem eqRow_sem (htt : TTok P tt) {G : Imm} (w : World) (dp : Nat) {us vs : List Value} {xs ys : List D} (hx : ∀ (j : Nat) d, xs[j]? = some d → ∃ u, us[j]? = some u ∧ d.rep G u) (hy : ∀ (j : Nat) d, ys[j]? = some d → ∃ u, vs[j]? = some u ∧ d.rep G u) :
    ∀ (fs : List Field) (r : Bool), (∀ f ∈ fs, (f.name == "_") = false) → eqRow tt (fs.map fun f => (f.offset, f.type)) xs ys = some r → (Op.eqFields (dp + 1) us.toArray vs.toArray fs).run P w = .ok r w
  | [], r, _, h => by simp [eqRow] at h; subst h; rfl
  | f :: fs, r, hn, h => by
    have h1 : f.name ≠ "_" := by simpa using hn f (by simp)
    simp only [List.map_cons, eqRow] at h
    split at h
    · rename_i e he
      have hpart : ∀ (zs : List Value) z, e.kind.agg = false → zs[f.offset]? = some z → (part f.type zs.toArray f.offset).run P w = .ok z w := by
        intro zs z ha hz
        unfold part
        rw [Sem.run_bind, run_isAgg w htt he, ha]
        simp [hz]
      obtain ⟨i, d, g1, g2, _, _, g3, _⟩ := tt_get htt he
      have step : ∀ (u v : Value) (q s : Bool), e.kind.agg = false → us[f.offset]? = some u → vs[f.offset]? = some v → (Op.equalIn (dp + 1) f.type u v).run P w = .ok q w → eqRow tt (fs.map fun f => (f.offset, f.type)) xs ys = some s → (Op.eqFields (dp + 1) us.toArray vs.toArray (f :: fs)).run P w = .ok (q && s) w := by
        intro u v q s ha hu hv hq hs
        have ih := eqRow_sem htt w dp hx hy fs s (fun g hg => hn g (by simp [hg])) hs
        rw [Op.eqFields, if_pos h1]
        simp only [Sem.run_bind, hpart us u ha hu, hpart vs v ha hv, hq, Result.andThen_ok]
        cases q
        · simp
        · simpa using ih
      split at h
      · rename_i k' k a j b hk ha hb
        split at h
        · rename_i s hkj hs
          injection h with h; subst h
          obtain ⟨u, u1, u2⟩ := hx _ _ ha
          obtain ⟨v, v1, v2⟩ := hy _ _ hb
          replace u2 : u = _ := u2
          replace v2 : v = _ := v2
          have hkj := kindEq_spec hkj
          subst u2; subst v2; subst hkj
          rw [hk] at g3
          rw [mkK_int0 g3] at g2
          exact step _ _ _ _ (by rw [hk]; rfl) u1 v1 (run_equalIn_int w dp f.type k k' a b g2) hs
        · cases h
      · rename_i a b hk ha hb
        split at h
        · rename_i s hs
          injection h with h; subst h
          obtain ⟨u, u1, u2⟩ := hx _ _ ha
          obtain ⟨v, v1, v2⟩ := hy _ _ hb
          replace u2 : u = _ := u2
          replace v2 : v = _ := v2
          subst u2; subst v2
          rw [hk] at g3
          rw [mkK_bool g3] at g2
          exact step _ _ _ _ (by rw [hk]; rfl) u1 v1 (run_equalIn_bool w dp f.type a b g2) hs
        · cases h
      · rename_i a b hk ha hb
        split at h
        · rename_i s hs
          injection h with h; subst h
          obtain ⟨u, u1, u2⟩ := hx _ _ ha
          obtain ⟨v, v1, v2⟩ := hy _ _ hb
          replace u2 : u = _ := u2
          replace v2 : v = _ := v2
          subst u2; subst v2
          rw [hk] at g3
          rw [mkK_str0 g3] at g2
          have := run_equalIn_string (P := P) w dp f.type ⟨a.toArray⟩ ⟨b.toArray⟩ g2
          rw [mk_list, mk_list] at this
          exact step _ _ _ _ (by rw [hk]; rfl) u1 v1 this hs
        · cases h
      · cases h
    · cases h
theorem pBin_sem (htt : TTok P tt) {op : BinOp} {t u : TypeId} {x y : Operand} {X Y : V} (ho : o.op = .binOp op t x y u) (hx : ev ρ x = some X) (hy : ev ρ y = some Y) (h : pBin tt op t X Y K) : ∃ e, K e ∧ Tri P o ρ H e := by
  have hox : x ∈ o.op.operands := by rw [ho]; simp [Op.operands]
  have hoy : y ∈ o.op.operands := by rw [ho]; simp [Op.operands]
  have run : ∀ (a : Act) (w : World) (vx vy v : Value), a.eval x = vx → a.eval y = vy → (eqGuard op t x y vx vy).run P w = .ok () w → (binOp op t vx vy).run P w = .ok v w → (execOp a.eval o).run P w = .ok (.value v) w := by
    intro a w vx vy v e1 e2 e4 e3
    unfold execOp
    rw [ho]
    simp only [e1, e2]
    simp [e4, e3]
  have guard : ∀ (w : World) (vx vy : Value), (∀ c, vx ≠ .agg c) → vx ≠ .nilIface → (eqGuard op t x y vx vy).run P w = .ok () w := by
    intro w vx vy h1 h2
    cases vx <;> first | exact absurd rfl (h1 _) | exact absurd rfl h2 | (unfold eqGuard; split <;> rfl)
  unfold pBin at h
  split at h
  · rename_i k a j b
    have ints : ∀ (q : V), kv K q → (∀ (G : Imm) (φ : Loc) (w : World), ∃ v, (binOp op t (.int k a) (.int j b)).run P w = .ok v w ∧ q.rep G φ v) → ∃ e, K e ∧ Tri P o ρ H e := by
      intro q hk hq
      refine kv_sem hk fun A G w φ hi hr => ?_
      obtain ⟨v, h1, h2⟩ := hq G φ w
      have ex : A.eval x = .int k a := hr x _ hox hx
      have ey : A.eval y = .int j b := hr y _ hoy hy
      exact ⟨v, run A w _ _ v ex ey (guard w _ _ (fun c => by simp) (by simp)) h1, h2⟩
    cases hs : isShift op with
    | true =>
      rw [hs] at h
      cases op <;> first | cases hs; done | skip
      all_goals
        obtain ⟨h0, h⟩ := h
        refine ints _ h (fun G φ w => ⟨_, ?_, rfl⟩)
        have : ¬ b < 0 := by omega
        simp [binOp, Op.shift, this]
    | false =>
      rw [hs] at h
      obtain ⟨hkj, h'⟩ := condP_out h
      clear h
      have hkj := kindEq_spec hkj
      subst hkj
      have h := h'
      clear h'
      unfold pInt at h
      cases op <;> first | exact h.elim | cases hs; done | skip
      all_goals try (replace h := kb_out h)
      all_goals first
        | (obtain ⟨h0, h⟩ := h
           refine ints _ h (fun G φ w => ⟨_, ?_, rfl⟩)
           simp [binOp, Op.intDiv, h0]; done)
        | (refine ints _ h (fun G φ w => ⟨_, ?_, rfl⟩)
           simp [binOp, Op.intArith, Op.intCmp, Op.intBits, bits]; done)
  · rename_i a b
    have strs : ∀ (q : V), kv K q → (∀ (G : Imm) (φ : Loc) (w : World), ∃ v, (Op.stringOp op ⟨a.toArray⟩ ⟨b.toArray⟩).run P w = .ok v w ∧ q.rep G φ v) → (∀ w, (binOp op t (.string ⟨a.toArray⟩) (.string ⟨b.toArray⟩)).run P w = (Op.stringOp op ⟨a.toArray⟩ ⟨b.toArray⟩).run P w) → ∃ e, K e ∧ Tri P o ρ H e := by
      intro q hk hq hb
      refine kv_sem hk fun A G w φ hi hr => ?_
      obtain ⟨v, h1, h2⟩ := hq G φ w
      have ex : A.eval x = .string ⟨a.toArray⟩ := hr x _ hox hx
      have ey : A.eval y = .string ⟨b.toArray⟩ := hr y _ hoy hy
      exact ⟨v, run A w _ _ v ex ey (guard w _ _ (fun c => by simp) (by simp)) ((hb w).trans h1), h2⟩
    unfold pStr at h
    cases op <;> first | exact h.elim | skip
    case add =>
      obtain ⟨h0, h⟩ := h
      refine strs _ h (fun G φ w => ⟨.string (⟨a.toArray⟩ ++ ⟨b.toArray⟩), ?_, ?_⟩) (fun w => rfl)
      · have e1 : (ByteArray.mk a.toArray).size = a.length := by simp [ByteArray.size]
        have e2 : (ByteArray.mk b.toArray).size = b.length := by simp [ByteArray.size]
        have : ¬ (((ByteArray.mk a.toArray).size + (ByteArray.mk b.toArray).size : Nat) : Int) > IntKind.i64.max := by
          rw [e1, e2]
          have : IntKind.i64.max = 9223372036854775807 := by decide
          rw [this]; omega
        simp only [Op.stringOp]
        rw [if_neg this]; rfl
      · show _ = _
        congr 1
    all_goals
      replace h := kb_out h
      refine strs _ h (fun G φ w => ⟨_, rfl, ?_⟩) (fun w => rfl)
      show _ = _
      simp only [mk_list]
  · rename_i a b
    split at h
    · rename_i e he
      have bools : ∀ (q : V), kv K q → (∀ (G : Imm) (φ : Loc) (w : World), ∃ v, (binOp op t (.bool a) (.bool b)).run P w = .ok v w ∧ q.rep G φ v) → ∃ e, K e ∧ Tri P o ρ H e := by
        intro q hk hq
        refine kv_sem hk fun A G w φ hi hr => ?_
        obtain ⟨v, h1, h2⟩ := hq G φ w
        have ex : A.eval x = .bool a := hr x _ hox hx
        have ey : A.eval y = .bool b := hr y _ hoy hy
        exact ⟨v, run A w _ _ v ex ey (guard w _ _ (fun c => by simp) (by simp)) h1, h2⟩
      split at h
      · rename_i hk
        obtain ⟨i, d, h1, h2, _, _, h3, _⟩ := tt_get htt he
        rw [hk] at h3
        rw [mkK_bool h3] at h2
        exact bools _ (kb_out h) (fun G φ w => ⟨_, by simp [binOp, run_equal_bool w t a b h2], rfl⟩)
      · rename_i hk
        obtain ⟨i, d, h1, h2, _, _, h3, _⟩ := tt_get htt he
        rw [hk] at h3
        rw [mkK_bool h3] at h2
        exact bools _ (kb_out h) (fun G φ w => ⟨_, by simp [binOp, run_equal_bool w t a b h2], rfl⟩)
      · exact h.elim
    · exact h.elim
  · rename_i cs es
    split at h
    · rename_i e he
      split at h
      · rename_i fs xs ys hc hk hxs hys
        obtain ⟨gs, c1, c2, c3, c4, c5⟩ := tt_cmp htt he hc
        rw [c5] at hk
        injection hk with hk
        subst hk
        have main : ∀ (r : Bool), eqRow tt (gs.toList.map fun f => (f.offset, f.type)) xs ys = some r → ∀ (A : Act) (G : Imm) (w : World) (φ : Loc), OpRep o ρ A G φ → ∃ us vs : List Value, A.eval x = .agg us.toArray ∧ A.eval y = .agg vs.toArray ∧ (Op.equal t (.agg us.toArray) (.agg vs.toArray)).run P w = .ok r w := by
          intro r hr A G w φ hrr
          obtain ⟨us, e1, r1, _⟩ := hrr x _ hox hx
          obtain ⟨vs, e2, r2, _⟩ := hrr y _ hoy hy
          refine ⟨us, vs, e1, e2, ?_⟩
          have hf : P.fieldsOf t = gs := by simp [Program.fieldsOf, c1]
          have := run_equalIn_struct (P := P) w 9999 t us.toArray vs.toArray (by rw [hf]; exact c1) c3
          rw [hf] at this
          exact this.trans (eqRow_sem htt w 9998 (toDs_rep r1 hxs).2 (toDs_rep r2 hys).2 gs.toList r c2 hr)
        split at h
        · rename_i r hr
          refine kv_sem (kb_out h) fun A G w φ hi hrr => ?_
          obtain ⟨us, vs, e1, e2, e3⟩ := main r hr A G w φ hrr
          refine ⟨.bool r, run A w _ _ _ e1 e2 (run_eqGuard_agg w _ t x y us.toArray vs.toArray c4) ?_, rfl⟩
          simp [binOp, e3]
        · rename_i r hr
          refine kv_sem (kb_out h) fun A G w φ hi hrr => ?_
          obtain ⟨us, vs, e1, e2, e3⟩ := main r hr A G w φ hrr
          refine ⟨.bool (!r), run A w _ _ _ e1 e2 (run_eqGuard_agg w _ t x y us.toArray vs.toArray c4) ?_, rfl⟩
          simp [binOp, e3]
        · exact h.elim
      · exact h.elim
    · exact h.elim
  · exact h.elim

/-! ### one operand -/
def pUn (op : UnOp) (X : V) (K : Eff → Prop) : Prop :=
  match op, X with
  | .neg, .d (.int k n) => kv K (.d (.int k (k.wrap (0 - n))))
  | .not, .d (.bool b) => kb K (!b)
  | _, _ => False
theorem pUn_sem {op : UnOp} {t : TypeId} {x : Operand} {X : V} (ho : o.op = .unOp op t x) (hx : ev ρ x = some X) (h : pUn op X K) : ∃ e, K e ∧ Tri P o ρ H e := by
  have hox : x ∈ o.op.operands := by rw [ho]; simp [Op.operands]
  unfold pUn at h
  split at h
  · rename_i k n
    refine kv_sem h fun a G w φ hi hr => ⟨_, ?_, rfl⟩
    have ex : a.eval x = .int k n := hr x _ hox hx
    unfold execOp
    rw [ho]
    simp [ex, Op.unary, Op.intArith]
  · rename_i b
    refine kv_sem (kb_out h) fun a G w φ hi hr => ⟨_, ?_, rfl⟩
    have ex : a.eval x = .bool b := hr x _ hox hx
    unfold execOp
    rw [ho]
    simp [ex, Op.unary]
  · exact h.elim
def pConv (tt : TT) (s t : TypeId) (X : V) (K : Eff → Prop) : Prop :=
  match tt s, tt t with
  | some _, some e =>
    match e.kind, X with
    | .int k, .d (.int _ n) => kv K (.d (.int k (k.wrap n)))
    | .str, .d (.str s) => kv K (.d (.str s))
    | _, _ => False
  | _, _ => False
theorem mkK_int {d : TypeDesc} {k : IntKind} (h : mkK d = .int k) : d = .int k := by cases d <;> simp [mkK] at h; rw [h]
theorem mkK_str {d : TypeDesc} (h : mkK d = .str) : d = .string := by cases d <;> simp [mkK] at h; rfl
theorem mkK_slice {d : TypeDesc} {e : TypeId} (h : mkK d = .slice e) : d = .slice e := by cases d <;> simp [mkK] at h; rw [h]
theorem mkK_arr {d : TypeDesc} {n : Nat} {e : TypeId} (h : mkK d = .arr n e) : d = .array n e := by cases d <;> simp [mkK] at h; rw [h.1, h.2]
theorem mkK_struct {d : TypeDesc} {fs : List (Nat × TypeId)} (h : mkK d = .struct fs) : ∃ gs : Array Field, d = .struct gs ∧ gs.toList.map (fun f => (f.offset, f.type)) = fs := by cases d <;> simp [mkK] at h; exact ⟨_, rfl, h⟩
theorem pConv_sem (htt : TTok P tt) {s t : TypeId} {x : Operand} {X : V} (ho : o.op = .convert s t x) (hx : ev ρ x = some X) (h : pConv tt s t X K) : ∃ e, K e ∧ Tri P o ρ H e := by
  have hox : x ∈ o.op.operands := by rw [ho]; simp [Op.operands]
  unfold pConv at h
  split at h
  · rename_i e0 e hs0 he
    obtain ⟨i, d, h1, h2, _, _, h3, _⟩ := tt_get htt he
    obtain ⟨i0, d0, g1, g2, _, _, g3, _⟩ := tt_get htt hs0
    split at h
    · rename_i k j n hk
      rw [hk] at h3
      rw [mkK_int h3] at h2
      refine kv_sem h fun a G w φ hi hr => ⟨_, ?_, rfl⟩
      have ex : a.eval x = .int j n := hr x _ hox hx
      unfold execOp
      rw [ho]
      simp [ex, convert, run_underlying h2, run_underlying g2, Conv.intToInt]
    · rename_i l hk
      rw [hk] at h3
      rw [mkK_str h3] at h2
      refine kv_sem h fun a G w φ hi hr => ⟨.string ⟨l.toArray⟩, ?_, rfl⟩
      have ex : a.eval x = .string ⟨l.toArray⟩ := hr x _ hox hx
      unfold execOp
      rw [ho]
      simp [ex, convert, run_underlying h2, run_underlying g2]
    · exact h.elim
  · exact h.elim
def pNil (X : V) (K : Eff → Prop) : Prop :=
  match X with
  | .ptr i o => kv K (.ptr i o)
  | .iptr r => kv K (.iptr r)
  | .d (.nptr r) => kv K (.d (.nptr r))
  | .eptr i j o => kv K (.eptr i j o)
  | .fn (.func f) a b => kv K (.fn (.func f) a b)
  | _ => False
theorem pNil_sem {x : Operand} {X : V} (ho : o.op = .nilCheck x) (hx : ev ρ x = some X) (h : pNil X K) : ∃ e, K e ∧ Tri P o ρ H e := by
  have hox : x ∈ o.op.operands := by rw [ho]; simp [Op.operands]
  unfold pNil at h
  split at h
  · refine kv_sem h fun a G w φ hi hr => ?_
    have hrep := hr x _ hox hx
    obtain ⟨b, c, h1, h2⟩ := hrep
    exact ⟨_, by unfold execOp; rw [ho]; simp only [h2]; rfl, ⟨b, c, h1, rfl⟩⟩
  · refine kv_sem h fun a G w φ hi hr => ?_
    have hrep := hr x _ hox hx
    obtain ⟨b, c, h2, h1⟩ := hrep
    exact ⟨_, by unfold execOp; rw [ho]; simp only [h2]; rfl, ⟨b, c, rfl, h1⟩⟩
  · refine kv_sem h fun a G w φ hi hr => ?_
    have hrep := hr x _ hox hx
    obtain ⟨b, c, h2, h1⟩ := hrep
    exact ⟨_, by unfold execOp; rw [ho]; simp only [h2]; rfl, ⟨b, c, rfl, h1⟩⟩
  · refine kv_sem h fun a G w φ hi hr => ?_
    have hrep := hr x _ hox hx
    obtain ⟨b, c, h1, h2⟩ := hrep
    exact ⟨_, by unfold execOp; rw [ho]; simp only [h2]; rfl, ⟨b, c, h1, rfl⟩⟩
  · refine kv_sem h fun a G w φ hi hr => ?_
    have hrep := hr x _ hox hx
    obtain ⟨us, vs, h2, h1, h3⟩ := hrep
    exact ⟨_, by unfold execOp; rw [ho]; simp only [h2]; rfl, ⟨us, vs, rfl, h1, h3⟩⟩
  · exact h.elim
theorem pFn_sem {f : Fn} {first captured : Array Operand} {xs ys : List V} (ho : o.op = .makeFunc f first captured) (hx : evs ρ first.toList = some xs) (hy : evs ρ captured.toList = some ys) (h : kv K (.fn f xs ys)) : ∃ e, K e ∧ Tri P o ρ H e := by
  have aux : ∀ (a : Act) (G : Imm) (φ : Loc) (os : List Operand) (zs : List V), (∀ x ∈ os, x ∈ o.op.operands) → OpRep o ρ a G φ → evs ρ os = some zs → repVs G φ zs (os.map a.eval) := by
    intro a G φ os
    induction os with
    | nil => intro zs _ _ hz; simp [evs] at hz; subst hz; rfl
    | cons x os ih =>
      intro zs hm hr hz
      unfold evs at hz
      split at hz
      · rename_i X hX
        split at hz
        · rename_i ws hws
          injection hz with hz; subst hz
          exact ⟨_, _, rfl, hr x X (hm x List.mem_cons_self) hX, ih ws (fun y hy => hm y (List.mem_cons_of_mem _ hy)) hr hws⟩
        · cases hz
      · cases hz
  refine kv_sem h fun a G w φ hi hr => ⟨.func f (first.map a.eval) (captured.map a.eval), by unfold execOp; rw [ho]; rfl, ⟨first.toList.map a.eval, captured.toList.map a.eval, ?_, aux a G φ _ _ (fun x hm => by rw [ho]; simp [Op.operands] at hm ⊢; exact .inl hm) hr hx, aux a G φ _ _ (fun x hm => by rw [ho]; simp [Op.operands] at hm ⊢; exact .inr hm) hr hy⟩⟩
  congr 1 <;> (apply Array.ext'; simp)
def pExt (X : V) (i : Nat) (K : Eff → Prop) : Prop :=
  match X with
  | .tup vs => match vs[i]? with
    | some x => kv K x
    | none => False
  | .lookT id x => match i with
    | 0 => kv K (.lookV id x)
    | 1 => kv K (.lookB id)
    | _ => False
  | _ => False
theorem pExt_sem {x : Operand} {i : Nat} {X : V} (ho : o.op = .extract x i) (hx : ev ρ x = some X) (h : pExt X i K) : ∃ e, K e ∧ Tri P o ρ H e := by
  have hox : x ∈ o.op.operands := by rw [ho]; simp [Op.operands]
  unfold pExt at h
  split at h
  · split at h
    · rename_i vs y hy
      refine kv_sem h fun a G w φ hi hr => ?_
      have hrep := hr x _ hox hx
      obtain ⟨us, h1, h2⟩ := hrep
      obtain ⟨u, g1, g2⟩ := repVs_get h2 i y hy
      exact ⟨u, by unfold execOp; rw [ho]; simp [h1, Instr.extract, g1], g2⟩
    · exact h.elim
  · split at h
    · refine kv_sem h fun a G w φ hi hr => ?_
      obtain ⟨c, s, h1, h2, h3⟩ := hr x _ hox hx
      exact ⟨s, by unfold execOp; rw [ho]; simp [h2, Instr.extract], ⟨c, h1, h3⟩⟩
    · refine kv_sem h fun a G w φ hi hr => ?_
      obtain ⟨c, s, h1, h2, h3⟩ := hr x _ hox hx
      exact ⟨_, by unfold execOp; rw [ho]; simp [h2, Instr.extract], ⟨c, h1, rfl⟩⟩
    · exact h.elim
  · exact h.elim

/-! ### places and parts -/
def pFA (tt : TT) (s : TypeId) (X : V) (f : Nat) (K : Eff → Prop) : Prop :=
  match tt s with
  | none => False
  | some e =>
    match e.kind with
    | .struct fs =>
      match fs[f]? with
      | some (off, t) =>
        match tt t with
        | some e2 => condP (Nat.ble 1 e2.size) (match X with
          | .ptr i p => kv K (.ptr i (p + off))
          | .iptr r => kv K (.iptr (r.drop off))
          | .d (.nptr r) => kv K (.iptr (r.drop off))
          | .eptr i j p => kv K (.eptr i j (p + off))
          | _ => False)
        | none => False
      | none => False
    | _ => False
theorem pFA_sem (htt : TTok P tt) {s : TypeId} {x : Operand} {f : Nat} {X : V} (ho : o.op = .fieldAddr s x f) (hx : ev ρ x = some X) (h : pFA tt s X f K) : ∃ e, K e ∧ Tri P o ρ H e := by
  have hox : x ∈ o.op.operands := by rw [ho]; simp [Op.operands]
  unfold pFA at h
  split at h
  · exact h.elim
  rename_i e he
  split at h
  · rename_i fs hk
    split at h
    · rename_i off t hf
      split at h
      · rename_i e2 he2
        obtain ⟨hc, h⟩ := condP_out h
        have hc := Nat.le_of_ble_eq_true hc
        obtain ⟨i, d, h1, h2, _, _, h3, _⟩ := tt_get htt he
        rw [hk] at h3
        obtain ⟨gs, rfl, hgs⟩ := mkK_struct h3
        have hfield : ∃ g : Field, gs[f]? = some g ∧ g.offset = off ∧ g.type = t := by
          rw [← hgs, List.getElem?_map] at hf
          cases hg : gs.toList[f]? with
          | none => rw [hg] at hf; cases hf
          | some g =>
            rw [hg] at hf
            simp at hf
            exact ⟨g, by simpa using hg, hf.1, hf.2⟩
        obtain ⟨g, hg, rfl, rfl⟩ := hfield
        have run : ∀ (a : Act) (b p : Nat) (w : World), a.eval x = .pointer (some ⟨b, p, none⟩) → (execOp a.eval o).run P w = .ok (.value (.pointer (some ⟨b, p + g.offset, none⟩))) w := by
          intro a b p w e1
          unfold execOp
          rw [ho]
          have : ¬ e2.size = 0 := by omega
          simp [Instr.fieldAt, run_underlying h2, hg, e1, Instr.sureAddr, fieldPlace, run_sizeOf w htt he2, this, add_lit]
        split at h
        · refine kv_sem h fun a G w φ hi hr => ?_
          obtain ⟨b, c, k1, k2⟩ := hr x _ hox hx
          exact ⟨_, run a b _ w k2, ⟨b, c, k1, rfl⟩⟩
        · refine kv_sem h fun a G w φ hi hr => ?_
          obtain ⟨b, p, k1, k2⟩ := hr x _ hox hx
          exact ⟨_, run a b _ w k1, ⟨b, _, rfl, repRow_drop k2 _⟩⟩
        · refine kv_sem h fun a G w φ hi hr => ?_
          obtain ⟨b, p, k1, k2, _⟩ := hr x _ hox hx
          exact ⟨_, run a b _ w k1, ⟨b, _, rfl, repRow_drop k2 _⟩⟩
        · refine kv_sem h fun a G w φ hi hr => ?_
          obtain ⟨b, c, k1, k2⟩ := hr x _ hox hx
          exact ⟨_, run a b _ w k2, ⟨b, c, k1, by rw [Nat.add_assoc]⟩⟩
        · exact h.elim
      · exact h.elim
    · exact h.elim
  · exact h.elim
/-- A part of a struct's or an array's value. -/
def pPart (tt : TT) (t : TypeId) (cs : List V) (off : Nat) (K : Eff → Prop) : Prop :=
  match tt t with
  | some e =>
    match e.kind.agg with
    | true => kv K (.agg ((cs.drop off).take e.size))
    | false => match cs[off]? with
      | some x => kv K x
      | none => False
  | none => False
theorem pPart_sem (htt : TTok P tt) {t : TypeId} {cs : List V} {off : Nat} (h : pPart tt t cs off K) (k : ∀ (a : Act) (G : Imm) (w : World) (φ : Loc), Inv G w → OpRep o ρ a G φ → ∃ us : List Value, repVs G φ cs us ∧ (∀ u ∈ us, u.oneCell' = true) ∧ ∀ v, (part t us.toArray off).run P w = .ok v w → (execOp a.eval o).run P w = .ok (.value v) w) : ∃ e, K e ∧ Tri P o ρ H e := by
  unfold pPart at h
  split at h
  · rename_i e he
    split at h
    · rename_i hagg
      refine kv_sem h fun a G w φ hi hr => ?_
      obtain ⟨us, h1, h2, h3⟩ := k a G w φ hi hr
      refine ⟨.agg ((us.drop off).take e.size).toArray, h3 _ ?_, ⟨_, rfl, repVs_take (repVs_drop h1 _) _, fun u hu => h2 u (List.mem_of_mem_drop (List.mem_of_mem_take hu))⟩⟩
      unfold part
      rw [Sem.run_bind, run_isAgg w htt he, hagg]
      simp [run_sizeOf w htt he, List.drop_take, Nat.add_sub_cancel_left]
    · rename_i hagg
      split at h
      · rename_i y hy
        refine kv_sem h fun a G w φ hi hr => ?_
        obtain ⟨us, h1, h2, h3⟩ := k a G w φ hi hr
        obtain ⟨u, g1, g2⟩ := repVs_get h1 off y hy
        refine ⟨u, h3 _ ?_, g2⟩
        unfold part
        rw [Sem.run_bind, run_isAgg w htt he, hagg]
        simp [g1]
      · exact h.elim
  · exact h.elim
def pField (tt : TT) (s : TypeId) (X : V) (f : Nat) (K : Eff → Prop) : Prop :=
  match tt s, X with
  | some e, .agg cs =>
    match e.kind with
    | .struct fs => match fs[f]? with
      | some (off, t) => pPart tt t cs off K
      | none => False
    | _ => False
  | _, _ => False
theorem pField_sem (htt : TTok P tt) {s : TypeId} {x : Operand} {f : Nat} {X : V} (ho : o.op = .field s x f) (hx : ev ρ x = some X) (h : pField tt s X f K) : ∃ e, K e ∧ Tri P o ρ H e := by
  have hox : x ∈ o.op.operands := by rw [ho]; simp [Op.operands]
  unfold pField at h
  split at h
  · rename_i e cs he
    split at h
    · rename_i fs hk
      split at h
      · rename_i off t hf
        obtain ⟨i, d, h1, h2, _, _, h3, _⟩ := tt_get htt he
        rw [hk] at h3
        obtain ⟨gs, rfl, hgs⟩ := mkK_struct h3
        have hfield : ∃ g : Field, gs[f]? = some g ∧ g.offset = off ∧ g.type = t := by
          rw [← hgs, List.getElem?_map] at hf
          cases hg : gs.toList[f]? with
          | none => rw [hg] at hf; cases hf
          | some g =>
            rw [hg] at hf
            simp at hf
            exact ⟨g, by simpa using hg, hf.1, hf.2⟩
        obtain ⟨g, hg, rfl, rfl⟩ := hfield
        refine pPart_sem htt h fun a G w φ hi hr => ?_
        obtain ⟨us, k1, k2, k3⟩ := hr x _ hox hx
        refine ⟨us, k2, k3, fun v hv => ?_⟩
        unfold execOp
        rw [ho]
        simp [Instr.field, run_underlying h2, hg, k1, asAgg, hv]
      · exact h.elim
    · exact h.elim
  · exact h.elim
end
end Go.Proofs.YtblnfodnkacbbaaGreatDoor.Q

namespace Go.Proofs.YtblnfodnkacbbaaGreatDoor.Q
variable [Amb]
section
variable {P : Program} {tt : TT} {o : Oper} {ρ : Env} {H : List Ob} {K : Eff → Prop}

/-! ### elements -/
def pRow (tt : TT) (e : TypeId) (rows : List (List D)) (i : Int) (K : Eff → Prop) : Prop :=
  match tt e with
  | some te => PIdx rows i fun row => condP (Nat.beq row.length te.size) (kv K (.iptr row))
  | none => False
def pIA (tt : TT) (t : TypeId) (X Y : V) (H : List Ob) (K : Eff → Prop) : Prop :=
  match tt t, Y with
  | some e, .d (.int _ i) =>
    match e.kind with
    | .slice el =>
      match X with
      | .d (.sl rows) => pRow tt el rows i K
      | .fsl rows => pRow tt el rows i K
      | .gsl rows _ => pRow tt el rows i K
      | .arr id off len =>
        match tt el, H[id]? with
        | some te, some (.parr esz rows) => (0 ≤ i ∧ i < len) ∧ condP (Nat.beq esz te.size) (K ⟨.eptr id (off + i.toNat) 0, [id], [], []⟩)
        | _, _ => False
      | _ => False
    | .arr n el =>
      match tt el with
      | some te => (0 ≤ i ∧ i < n) ∧ (match X with
        | .ptr id p => kv K (.ptr id (p + i.toNat * te.size))
        | .iptr row => kv K (.iptr (row.drop (i.toNat * te.size)))
        | .eptr id j p => kv K (.eptr id j (p + i.toNat * te.size))
        | _ => False)
      | none => False
    | _ => False
  | _, _ => False
theorem sl_at {G : Imm} {rows : List (List D)} {i : Nat} {row : List D} {A : Option Addr} (hrow : rows[i]? = some row) (h : rows ≠ [] → ∃ b o e, A = some ⟨b, o, none⟩ ∧ repRows G b o e rows) : ∃ b o, A = some ⟨b, o, none⟩ ∧ repRow G b (o + i * row.length) row := by
  obtain ⟨b, o, e, h1, h2⟩ := h (fun hn => by rw [hn] at hrow; cases hrow)
  obtain ⟨h3, h4⟩ := repRows_get h2 i row hrow
  exact ⟨b, o, h1, by rw [h3]; exact h4⟩
theorem pIA_sem (htt : TTok P tt) {t : TypeId} {x y : Operand} {X Y : V} (ho : o.op = .indexAddr t x y) (hx : ev ρ x = some X) (hy : ev ρ y = some Y) (h : pIA tt t X Y H K) : ∃ e, K e ∧ Tri P o ρ H e := by
  have hox : x ∈ o.op.operands := by rw [ho]; simp [Op.operands]
  have hoy : y ∈ o.op.operands := by rw [ho]; simp [Op.operands]
  unfold pIA at h
  split at h
  · rename_i e kk i he
    obtain ⟨ti, d, h1, h2, _, _, h3, _⟩ := tt_get htt he
    split at h
    · rename_i el hk
      rw [hk] at h3
      rw [mkK_slice h3] at h2
      have run : ∀ (a : Act) (b p l c : Nat) (w : World) (te : TE), tt el = some te → a.eval x = .slice (some ⟨b, p, none⟩) l c → a.eval y = .int kk i → 0 ≤ i → i < l → (execOp a.eval o).run P w = .ok (.value (.pointer (some ⟨b, p + i.toNat * te.size, none⟩))) w := by
        intro a b p l c w te hte e1 e2 e3 e4
        unfold execOp
        rw [ho]
        simp [Instr.indexAt, e1, e2, asIntOf, run_underlying h2, e3, e4, run_sizeOf w htt hte, add_lit]
      have rows_case : ∀ (rows : List (List D)), (∀ (a : Act) (G : Imm) (φ : Loc), OpRep o ρ a G φ → ∃ (A : Option Addr) (c : Nat), a.eval x = .slice A rows.length c ∧ (rows ≠ [] → ∃ b o e, A = some ⟨b, o, none⟩ ∧ repRows G b o e rows)) → pRow tt el rows i K → ∃ e, K e ∧ Tri P o ρ H e := by
        intro rows hrows h
        unfold pRow at h
        split at h
        · rename_i te hte
          obtain ⟨h0, row, hrow, h⟩ := h
          obtain ⟨hc, h⟩ := condP_out h
          have hc := Nat.eq_of_beq_eq_true hc
          refine kv_sem h fun a G w φ hi hr => ?_
          obtain ⟨A, c, k1, k2⟩ := hrows a G φ hr
          obtain ⟨b, p, rfl, k3⟩ := sl_at hrow k2
          have hlt := lt_of_get hrow
          refine ⟨_, run a b p _ c w te hte k1 (hr y _ hoy hy) h0 (by omega), ⟨b, _, rfl, by rw [← hc]; exact k3⟩⟩
        · exact h.elim
      split at h
      · exact rows_case _ (fun a G φ hr => let ⟨A, c, e1, e2, e3⟩ := hr x _ hox hx; ⟨A, c, e1, e3⟩) h
      · exact rows_case _ (fun a G φ hr => let ⟨A, e1, e3⟩ := hr x _ hox hx; ⟨Addr0 A, _, e1, a0 e3⟩) h
      · exact rows_case _ (fun a G φ hr => let ⟨A, c, _, e1, e2, e3⟩ := hr x _ hox hx; ⟨Addr0 A, c, e1, a0 e3⟩) h
      · rename_i id off len
        split at h
        · rename_i te esz rows hte hH
          obtain ⟨⟨h0, hl⟩, h⟩ := h
          obtain ⟨hc, h⟩ := condP_out h
          have hc := Nat.eq_of_beq_eq_true hc
          have hid := lt_of_get hH
          refine ⟨_, h, tri_val (by simpa using hid) fun a G w φ Hx hs hr ha => ?_⟩
          obtain ⟨b, c, k1, k, k2, k3⟩ := hr x _ hox hx
          obtain ⟨b', T, us, g1, g2, g3, g4, g5⟩ := hs.holds id _ ((ha id (by simp)).trans hH)
          rw [k1] at g1; injection g1 with g1; injection g1 with g1 g1'; injection g1 with g1; injection g1 with g1; subst g1; subst g1'
          refine ⟨_, run a b _ _ k w te hte k3 (hr y _ hoy hy) h0 hl, ⟨b, c, k1, by rw [← hc, Nat.add_mul]; simp⟩⟩
        · exact h.elim
      · exact h.elim
    · rename_i n el hk
      rw [hk] at h3
      rw [mkK_arr h3] at h2
      split at h
      · rename_i te hte
        obtain ⟨⟨h0, hl⟩, h⟩ := h
        have run : ∀ (a : Act) (b p : Nat) (w : World), a.eval x = .pointer (some ⟨b, p, none⟩) → a.eval y = .int kk i → (execOp a.eval o).run P w = .ok (.value (.pointer (some ⟨b, p + i.toNat * te.size, none⟩))) w := by
          intro a b p w e1 e2
          unfold execOp
          rw [ho]
          simp [Instr.indexAt, Instr.sureAddr, e1, e2, asIntOf, run_underlying h2, h0, hl, run_sizeOf w htt hte, add_lit]
        split at h
        · refine kv_sem h fun a G w φ hi hr => ?_
          obtain ⟨b, c, k1, k2⟩ := hr x _ hox hx
          exact ⟨_, run a b _ w k2 (hr y _ hoy hy), ⟨b, c, k1, rfl⟩⟩
        · refine kv_sem h fun a G w φ hi hr => ?_
          obtain ⟨b, p, k1, k2⟩ := hr x _ hox hx
          exact ⟨_, run a b _ w k1 (hr y _ hoy hy), ⟨b, _, rfl, repRow_drop k2 _⟩⟩
        · refine kv_sem h fun a G w φ hi hr => ?_
          obtain ⟨b, c, k1, k2⟩ := hr x _ hox hx
          exact ⟨_, run a b _ w k2 (hr y _ hoy hy), ⟨b, c, k1, by rw [Nat.add_assoc]⟩⟩
        · exact h.elim
      · exact h.elim
    · exact h.elim
  · exact h.elim
def pIx (tt : TT) (t : TypeId) (X Y : V) (K : Eff → Prop) : Prop :=
  match tt t, X, Y with
  | some e, .d (.str s), .d (.int _ i) =>
    match e.kind with
    | .str => PIdx s i fun c => kv K (.d (.int .u8 c.toNat))
    | _ => False
  | some e, .agg cs, .d (.int _ i) =>
    match e.kind with
    | .arr n el => match tt el with
      | some te => (0 ≤ i ∧ i < n) ∧ pPart tt el cs (i.toNat * te.size) K
      | none => False
    | _ => False
  | _, _, _ => False
theorem str_get (s : List UInt8) (i : Nat) : (ByteArray.mk s.toArray)[i]? = s[i]? := by
  by_cases h : i < s.length
  · rw [List.getElem?_eq_getElem h]
    have : i < (ByteArray.mk s.toArray).size := by simpa [ByteArray.size] using h
    rw [getElem?_pos _ i this]
    rfl
  · rw [List.getElem?_eq_none (by omega)]
    have : ¬ i < (ByteArray.mk s.toArray).size := by simpa [ByteArray.size] using h
    rw [getElem?_neg _ i this]
theorem pIx_sem (htt : TTok P tt) {t : TypeId} {x y : Operand} {X Y : V} (ho : o.op = .index t x y) (hx : ev ρ x = some X) (hy : ev ρ y = some Y) (h : pIx tt t X Y K) : ∃ e, K e ∧ Tri P o ρ H e := by
  have hox : x ∈ o.op.operands := by rw [ho]; simp [Op.operands]
  have hoy : y ∈ o.op.operands := by rw [ho]; simp [Op.operands]
  unfold pIx at h
  split at h
  · rename_i e s kk i he
    split at h
    · rename_i hk
      obtain ⟨ti, d, h1, h2, _, _, h3, _⟩ := tt_get htt he
      rw [hk] at h3
      rw [mkK_str h3] at h2
      obtain ⟨h0, c, hc, h⟩ := h
      refine kv_sem h fun a G w φ hi hr => ⟨.int .u8 c.toNat, ?_, rfl⟩
      have ex : a.eval x = .string ⟨s.toArray⟩ := hr x _ hox hx
      have ey : a.eval y = .int kk i := hr y _ hoy hy
      unfold execOp
      rw [ho]
      simp [Instr.index, asIntOf, ex, ey, run_underlying h2, h0, str_get, hc]
    · exact h.elim
  · rename_i e cs kk i he
    split at h
    · rename_i n el hk
      split at h
      · rename_i te hte
        obtain ⟨ti, d, h1, h2, _, _, h3, _⟩ := tt_get htt he
        rw [hk] at h3
        rw [mkK_arr h3] at h2
        obtain ⟨⟨h0, hl⟩, h⟩ := h
        refine pPart_sem htt h fun a G w φ hi hr => ?_
        obtain ⟨us, k1, k2, k3⟩ := hr x _ hox hx
        refine ⟨us, k2, k3, fun v hv => ?_⟩
        have ey : a.eval y = .int kk i := hr y _ hoy hy
        unfold execOp
        rw [ho]
        simp [Instr.index, asIntOf, k1, ey, run_underlying h2, h0, hl, run_sizeOf w htt hte, hv]
      · exact h.elim
    · exact h.elim
  · exact h.elim

/-! ### lengths -/
theorem mkK_map {d : TypeDesc} {k e : TypeId} (h : mkK d = .map k e) : d = .map k e := by cases d <;> simp [mkK] at h; rw [h.1, h.2]
def pLen (tt : TT) (t : TypeId) (X : V) (K : Eff → Prop) : Prop :=
  match tt t with
  | some e =>
    match e.kind, X with
    | .str, .d (.str s) => kv K (.d (.int .i64 s.length))
    | .slice _, .d (.sl rows) => kv K (.d (.int .i64 rows.length))
    | .slice _, .fsl rows => kv K (.d (.int .i64 rows.length))
    | .slice _, .gsl rows _ => kv K (.d (.int .i64 rows.length))
    | .slice _, .arr _ _ len => kv K (.d (.int .i64 len))
    | .map _ _, .d (.set xs) => kv K (.d (.int .i64 xs.length))
    | _, _ => False
  | none => False
theorem pLen_sem (htt : TTok P tt) {t : TypeId} {x : Operand} {X : V} (ho : o.op = .call { callee := .builtin .len, args := #[x], argTypes := #[t] }) (hx : ev ρ x = some X) (h : pLen tt t X K) : ∃ e, K e ∧ Tri P o ρ H e := by
  have hox : x ∈ o.op.operands := by rw [ho]; simp [Op.operands, Call.operands]
  unfold pLen at h
  split at h
  · rename_i e he
    obtain ⟨ti, d, h1, h2, _, _, h3, _⟩ := tt_get htt he
    have sl : ∀ (el : TypeId) (A : Option Addr) (l c : Nat) (a : Act) (w : World), P.underlying t = some (.slice el) → a.eval x = .slice A l c → (execOp a.eval o).run P w = .ok (.value (.int .i64 l)) w := by
      intro el A l c a w e1 e2
      unfold execOp
      rw [ho]
      simp [resolve, invoke, builtin, Builtin.len_, e2, run_underlying e1, goInt]
    split at h
    · rename_i s hk
      rw [hk] at h3
      rw [mkK_str h3] at h2
      refine kv_sem h fun a G w φ hi hr => ⟨_, ?_, rfl⟩
      have ex : a.eval x = .string ⟨s.toArray⟩ := hr x _ hox hx
      have hsz : (ByteArray.mk s.toArray).size = s.length := by simp [ByteArray.size]
      unfold execOp
      rw [ho]
      simp [resolve, invoke, builtin, Builtin.len_, ex, run_underlying h2, goInt, hsz]
    · rename_i el rows hk
      rw [hk] at h3; rw [mkK_slice h3] at h2
      refine kv_sem h fun a G w φ hi hr => ⟨_, ?_, rfl⟩
      obtain ⟨A, c, e1, _⟩ := hr x _ hox hx
      exact sl el _ _ c a w h2 e1
    · rename_i el rows hk
      rw [hk] at h3; rw [mkK_slice h3] at h2
      refine kv_sem h fun a G w φ hi hr => ⟨_, ?_, rfl⟩
      obtain ⟨A, e1, _⟩ := hr x _ hox hx
      exact sl el _ _ _ a w h2 e1
    · rename_i el rows tip hk
      rw [hk] at h3; rw [mkK_slice h3] at h2
      refine kv_sem h fun a G w φ hi hr => ⟨_, ?_, rfl⟩
      obtain ⟨A, c, _, e1, _⟩ := hr x _ hox hx
      exact sl el _ _ c a w h2 e1
    · rename_i el id off len hk
      rw [hk] at h3; rw [mkK_slice h3] at h2
      refine kv_sem h fun a G w φ hi hr => ⟨_, ?_, rfl⟩
      obtain ⟨b, c, _, k, _, e1⟩ := hr x _ hox hx
      exact sl el _ _ k a w h2 e1
    · rename_i kt et xs hk
      rw [hk] at h3; rw [mkK_map h3] at h2
      refine kv_sem h fun a G w φ hi hr => ⟨_, ?_, rfl⟩
      rcases set_rep hi (hr x _ hox hx) with ⟨e1, e2⟩ | ⟨b, es, clk, l, bs, e1, _, e2, e3, e4⟩
      · subst e2
        unfold execOp
        rw [ho]
        simp [resolve, invoke, builtin, Builtin.len_, e1, run_underlying h2, goInt]
      · have hsz : es.size = xs.length := by
          rw [← Array.length_toList, e3.es, ← e4.length_eq]
          simp [setEs, e3.len]
        unfold execOp
        rw [ho]
        simp [resolve, invoke, builtin, Builtin.len_, e1, run_underlying h2, goInt, MapKept.run_getObj_map e2, hsz]
    · exact h.elim
  · exact h.elim

/-! ### cuts -/
/-- A bound that may be missing. -/
def bnd (ρ : Env) : Option Operand → Option (Option Int)
  | none => some none
  | some x => match ev ρ x with
    | some (.d (.int _ n)) => some (some n)
    | _ => none
def cutTo {α : Type} (l : List α) : Option Int → List α
  | none => l
  | some n => l.take n.toNat
def cutFrom {α : Type} (l : List α) : Option Int → List α
  | none => l
  | some n => l.drop n.toNat
def cutOk (len : Nat) : Option Int → Option Int → Prop
  | none, none => True
  | some lo, none => 0 ≤ lo ∧ lo ≤ len
  | none, some hi => 0 ≤ hi ∧ hi ≤ len
  | some lo, some hi => 0 ≤ lo ∧ lo ≤ hi ∧ hi ≤ len
def pCut (tt : TT) (t : TypeId) (X : V) (lo hi : Option Int) (K : Eff → Prop) : Prop :=
  match tt t with
  | some e =>
    match e.kind with
    | .str => match X with
      | .d (.str s) => cutOk s.length lo hi ∧ kv K (.d (.str (cutFrom (cutTo s hi) lo)))
      | _ => False
    | .slice el =>
      match tt el with
      | some te =>
        match X with
        | .d (.sl rows) => cutOk rows.length lo hi ∧ (∀ r ∈ rows, r.length = te.size) ∧ kv K (.d (.sl (cutFrom (cutTo rows hi) lo)))
        | .fsl rows => cutOk rows.length lo hi ∧ (∀ r ∈ rows, r.length = te.size) ∧ kv K (.d (.sl (cutFrom (cutTo rows hi) lo)))
        | .gsl rows _ => cutOk rows.length lo hi ∧ (∀ r ∈ rows, r.length = te.size) ∧ kv K (.d (.sl (cutFrom (cutTo rows hi) lo)))
        | _ => False
      | none => False
    | _ => False
  | none => False
def cutLo : Option Int → Nat
  | none => 0
  | some n => n.toNat
def cutHi (len : Nat) : Option Int → Nat
  | none => len
  | some n => n.toNat
theorem cut_eq {α : Type} (l : List α) (lo hi : Option Int) (h : cutOk l.length lo hi) : cutFrom (cutTo l hi) lo = (l.take (cutHi l.length hi)).drop (cutLo lo) ∧ cutLo lo ≤ cutHi l.length hi ∧ cutHi l.length hi ≤ l.length := by
  cases lo <;> cases hi <;> simp only [cutFrom, cutTo, cutLo, cutHi, cutOk] at h ⊢ <;> refine ⟨?_, ?_, ?_⟩ <;> first | omega | simp
theorem bnd_rep {ρ : Env} {q : Option Operand} {n : Option Int} {a : Act} {G : Imm} {φ : Loc} (h : bnd ρ q = some n) (hr : ∀ x X, some x = q → ev ρ x = some X → X.rep G φ (a.eval x)) : (q = none ∧ n = none) ∨ ∃ x k m, q = some x ∧ n = some m ∧ a.eval x = .int k m := by
  cases q with
  | none => injection h with h; exact .inl ⟨rfl, h.symm⟩
  | some x =>
    unfold bnd at h
    dsimp only at h
    split at h
    · rename_i k m hx
      injection h with h
      exact .inr ⟨x, k, m, rfl, h.symm, hr x _ rfl hx⟩
    · cases h
theorem run_bounds {isS : Bool} {len cap : Nat} {lo hi : Option Value} {l h : Option Int} (w : World)
    (hl : (lo = none ∧ l = none) ∨ ∃ k m, lo = some (.int k m) ∧ l = some m) (hh : (hi = none ∧ h = none) ∨ ∃ k m, hi = some (.int k m) ∧ h = some m) (hc : cutOk len l h) (hcap : len ≤ cap) :
    (Instr.sliceBounds isS len cap lo hi none).run P w = .ok (cutLo l, cutHi len h, cap) w := by
  rcases hl with ⟨rfl, rfl⟩ | ⟨k, m, rfl, rfl⟩ <;> rcases hh with ⟨rfl, rfl⟩ | ⟨k', m', rfl, rfl⟩ <;> simp only [cutOk] at hc
  · simp [Instr.sliceBounds, cutLo, cutHi]
  · have : m' ≤ (cap : Int) := by omega
    simp [Instr.sliceBounds, Instr.sliceBound, asIntOf, cutLo, cutHi, hc.1, this]
  · simp [Instr.sliceBounds, Instr.sliceBound, asIntOf, cutLo, cutHi, hc.1, hc.2]
  · have : m' ≤ (cap : Int) := by omega
    have h2 : 0 ≤ m' := by omega
    have h3 : m ≤ max m' 0 := by omega
    simp [Instr.sliceBounds, Instr.sliceBound, asIntOf, cutLo, cutHi, hc.1, this, h2, h3]
theorem pCut_sem (htt : TTok P tt) {t : TypeId} {x : Operand} {lo hi : Option Operand} {X : V} {l h : Option Int} (ho : o.op = .slice t x lo hi none) (hx : ev ρ x = some X) (hl : bnd ρ lo = some l) (hh : bnd ρ hi = some h) (hk : pCut tt t X l h K) : ∃ e, K e ∧ Tri P o ρ H e := by
  have hox : x ∈ o.op.operands := by rw [ho]; simp [Op.operands]
  have hB : ∀ (a : Act) (G : Imm) (φ : Loc), OpRep o ρ a G φ → ((lo.map a.eval = none ∧ l = none) ∨ ∃ k m, lo.map a.eval = some (.int k m) ∧ l = some m) ∧ ((hi.map a.eval = none ∧ h = none) ∨ ∃ k m, hi.map a.eval = some (.int k m) ∧ h = some m) := by
    intro a G φ hr
    constructor
    · rcases bnd_rep (a := a) (G := G) (φ := φ) hl (fun y Y hy => hr y Y (by rw [ho]; subst hy; simp [Op.operands])) with ⟨e1, e2⟩ | ⟨y, k, m, e1, e2, e3⟩
      · exact .inl ⟨by rw [e1]; rfl, e2⟩
      · exact .inr ⟨k, m, by rw [e1]; simp [e3], e2⟩
    · rcases bnd_rep (a := a) (G := G) (φ := φ) hh (fun y Y hy => hr y Y (by rw [ho]; subst hy; simp [Op.operands])) with ⟨e1, e2⟩ | ⟨y, k, m, e1, e2, e3⟩
      · exact .inl ⟨by rw [e1]; rfl, e2⟩
      · exact .inr ⟨k, m, by rw [e1]; simp [e3], e2⟩
  unfold pCut at hk
  split at hk
  · rename_i e he
    obtain ⟨ti, d, h1, h2, _, _, h3, _⟩ := tt_get htt he
    split at hk
    · rename_i hkind
      rw [hkind] at h3; rw [mkK_str h3] at h2
      split at hk
      · rename_i s
        obtain ⟨hc, hk⟩ := hk
        obtain ⟨c1, c2, c3⟩ := cut_eq s l h hc
        refine kv_sem hk fun a G w φ hi' hr => ?_
        have ex : a.eval x = .string ⟨s.toArray⟩ := hr x _ hox hx
        obtain ⟨b1, b2⟩ := hB a G φ hr
        have hsz : (ByteArray.mk s.toArray).size = s.length := by simp [ByteArray.size]
        have hrun := run_bounds (P := P) (isS := false) w b1 b2 hc (Nat.le_refl s.length)
        refine ⟨.string ((ByteArray.mk s.toArray).extract (cutLo l) (cutHi s.length h)), ?_, ?_⟩
        · unfold execOp
          rw [ho]
          simp [Instr.sliceAt, Instr.slice, ex, run_underlying h2, hsz, hrun]
        · show _ = _
          congr 1
          apply Go.WideShapes.bytes_inj
          rw [Lib.extract_data, c1]
          simp [List.drop_take]
      · exact hk.elim
    · rename_i el hkind
      rw [hkind] at h3; rw [mkK_slice h3] at h2
      split at hk
      · rename_i te hte
        have go : ∀ (rows : List (List D)), (∀ (a : Act) (G : Imm) (φ : Loc), OpRep o ρ a G φ → ∃ (A : Option Addr) (c : Nat), a.eval x = .slice A rows.length c ∧ rows.length ≤ c ∧ (rows ≠ [] → ∃ b o e, A = some ⟨b, o, none⟩ ∧ repRows G b o e rows)) →
            cutOk rows.length l h → (∀ r ∈ rows, r.length = te.size) → kv K (.d (.sl (cutFrom (cutTo rows h) l))) → ∃ e, K e ∧ Tri P o ρ H e := by
          intro rows hrows hc hlen hk
          obtain ⟨c1, c2, c3⟩ := cut_eq rows l h hc
          refine kv_sem hk fun a G w φ hi' hr => ?_
          obtain ⟨A, c, k1, k2, k3⟩ := hrows a G φ hr
          obtain ⟨b1, b2⟩ := hB a G φ hr
          have hrun := run_bounds (P := P) (isS := true) w b1 b2 hc k2
          refine ⟨.slice (if c = cutLo l then A else A.map (·.add (cutLo l * te.size))) (cutHi rows.length h - cutLo l) (c - cutLo l), ?_, ?_⟩
          · unfold execOp
            rw [ho]
            simp [Instr.sliceAt, Instr.slice, k1, run_underlying h2, hrun, run_sizeOf w htt hte]
          · rw [c1]
            have hll : ((rows.take (cutHi rows.length h)).drop (cutLo l)).length = cutHi rows.length h - cutLo l := by simp; omega
            by_cases hcc : c = cutLo l
            · rw [if_pos hcc]
              refine ⟨A, c - cutLo l, by rw [hll], by rw [hll]; omega, fun hne => ?_⟩
              exfalso
              apply hne
              apply List.eq_nil_of_length_eq_zero
              rw [hll]; omega
            · rw [if_neg hcc]
              by_cases hn : rows = []
              · subst hn
                refine ⟨A.map (·.add (cutLo l * te.size)), c - cutLo l, ?_, by rw [hll]; omega, fun hne => by simp at hne⟩
                rw [hll]
              · obtain ⟨b, p, e', rfl, k4⟩ := k3 hn
                have he' : e' = te.size := by
                  obtain ⟨r, hr⟩ := List.exists_mem_of_ne_nil rows hn
                  rw [← repRows_len k4 r hr, hlen r hr]
                subst he'
                refine ⟨some ⟨b, p + cutLo l * te.size, none⟩, c - cutLo l, ?_, by rw [hll]; omega, fun _ => ⟨b, _, te.size, rfl, repRows_drop (repRows_take k4 _) _⟩⟩
                rw [hll]
                simp [add_lit]
        split at hk
        · exact go _ (fun a G φ hr => let ⟨A, c, e1, e2, e3⟩ := hr x _ hox hx; ⟨A, c, e1, e2, e3⟩) hk.1 hk.2.1 hk.2.2
        · exact go _ (fun a G φ hr => let ⟨A, e1, e3⟩ := hr x _ hox hx; ⟨Addr0 A, _, e1, Nat.le_refl _, a0 e3⟩) hk.1 hk.2.1 hk.2.2
        · exact go _ (fun a G φ hr => let ⟨A, c, _, e1, e2, e3⟩ := hr x _ hox hx; ⟨Addr0 A, c, e1, e2, a0 e3⟩) hk.1 hk.2.1 hk.2.2
        · exact hk.elim
      · exact hk.elim
    · exact hk.elim
  · exact hk.elim
end
end Go.Proofs.YtblnfodnkacbbaaGreatDoor.Q

namespace Go.Proofs.YtblnfodnkacbbaaGreatDoor.Q
variable [Amb]
section
variable {P : Program} {tt : TT} {o : Oper} {ρ : Env} {H : List Ob} {K : Eff → Prop}

/-! ### variables -/
/-- The type of a strings.Builder's bytes. -/
def bldE (tt : TT) (t : TypeId) : TypeId := match tt t with
  | some e => match e.kind with
    | .struct ((_, f0) :: (_, f1) :: _) => match tt f1 with
      | some e1 => match e1.kind with
        | .slice b => b
        | _ => match tt f0 with
          | some e0 => match e0.kind with
            | .struct (_ :: (_, g1) :: _) => match tt g1 with
              | some k1 => match k1.kind with
                | .slice b => b
                | _ => 0
              | none => 0
            | _ => 0
          | none => 0
      | none => 0
    | _ => 0
  | none => 0
/-- A new variable out of cells. -/
def newK (tt : TT) (t : TypeId) (cells : List V) (H : List Ob) (K : Eff → Prop) : Prop := match cells with
  | .d (.raw (.pointer none)) :: .d (.raw (.slice none 0 0)) :: rest => K ⟨.ptr H.length 0, [], [], [.bld t (bldE tt t) false [] rest]⟩
  | cells => K ⟨.ptr H.length 0, [], [], [.box cells]⟩
theorem newK_sem {t : TypeId} {cells : List V} (h : newK tt t cells H K)
    (k : ∀ (a : Act) (G : Imm) (w : World) (φ : Loc), OpRep o ρ a G φ → ∃ us, (execOp a.eval o).run P w = .ok (.value (.pointer (some ⟨w.heap.size, 0, none⟩))) (w.alloc (.cells (List.toArray us) t)) ∧ repVs G φ cells us ∧ ∀ u ∈ us, u.oneCell' = true) : ∃ e, K e ∧ Tri P o ρ H e := by
  unfold newK at h
  split at h
  · rename_i rest
    refine ⟨_, h, tri_bld fun a G w φ hr => ?_⟩
    obtain ⟨us, h1, ⟨u0, us1, rfl, ⟨rfl, _⟩, u1, us2, rfl, ⟨rfl, _⟩, h2⟩, h3⟩ := k a G w φ hr
    exact ⟨us2, h1, h2, fun u hu => h3 u (by simp [hu])⟩
  · refine ⟨_, h, tri_box fun a G w φ hr => ?_⟩
    obtain ⟨us, h1, h2, h3⟩ := k a G w φ hr
    exact ⟨us, t, h1, h2, h3⟩
def pAlloc (tt : TT) (t : TypeId) (H : List Ob) (K : Eff → Prop) : Prop :=
  match tt t with
  | some e => match e.zero with
    | some z => condP z.cellB (newK tt t z.cells H K)
    | none => False
  | none => False
theorem pAlloc_sem (htt : TTok P tt) {t : TypeId} (ho : o.op = .alloc t) (h : pAlloc tt t H K) : ∃ e, K e ∧ Tri P o ρ H e := by
  unfold pAlloc at h
  split at h
  · rename_i e he
    split at h
    · rename_i z hz
      obtain ⟨hc, h⟩ := condP_out h
      refine newK_sem h fun a G w φ hr => ?_
      obtain ⟨v, h1, h2, _⟩ := run_zero (P := P) w htt he hz
      obtain ⟨r1, r2⟩ := V.cells_rep' (h2 G φ) hc
      refine ⟨v.cells.toList, ?_, r1, r2⟩
      unfold execOp
      rw [ho]
      simp [Instr.alloc, h1, newVar, newRow]
    · exact h.elim
  · exact h.elim
def pBox (tt : TT) (t : TypeId) (X : V) (H : List Ob) (K : Eff → Prop) : Prop := condP X.cellB (newK tt t X.cells H K)
theorem pBox_sem {t : TypeId} {x : Operand} {X : V} (ho : o.op = .box t x) (hx : ev ρ x = some X) (h : pBox tt t X H K) : ∃ e, K e ∧ Tri P o ρ H e := by
  have hox : x ∈ o.op.operands := by rw [ho]; simp [Op.operands]
  obtain ⟨hc, h⟩ := condP_out h
  refine newK_sem h fun a G w φ hr => ?_
  obtain ⟨r1, r2⟩ := V.cells_rep' (hr x _ hox hx) hc
  refine ⟨(a.eval x).cells.toList, ?_, r1, r2⟩
  unfold execOp
  rw [ho]
  simp [Instr.box, newVar, newRow]

/-! ### structs by value -/
/-- A slice that is part of a value: without the room behind it, where it has elements. -/
def V.shut (x : V) : V := match x with
  | .fsl rows => match rows with
    | [] => .fsl []
    | r :: rs => .d (.sl (r :: rs))
  | x => x
theorem V.shut_rep {G : Imm} {φ : Loc} {x : V} {v : Value} (h : x.rep G φ v) : x.shut.rep G φ v := by
  unfold V.shut
  split
  · split
    · exact h
    · obtain ⟨A, e, h1⟩ := h
      exact ⟨Addr0 A, _, e, Nat.le_refl _, a0 h1⟩
  · exact h
def evParts (ρ : Env) : List (Nat × Operand) → Option (List (Nat × V))
  | [] => some []
  | (i, x) :: r => match ev ρ x with
    | some X => match evParts ρ r with
      | some xs => some ((i, X.shut) :: xs)
      | none => none
    | none => none
def fillV (place : Nat → Option (Nat × Nat)) (cells : List V) : List (Nat × V) → Option (List V)
  | [] => some cells
  | (i, x) :: r => match place i with
    | some (off, size) => bif x.cellB && Nat.beq x.cells.length size && Nat.ble (off + size) cells.length then fillV place (cells.take off ++ x.cells ++ cells.drop (off + size)) r else none
    | none => none
theorem fold_set (off : Nat) : ∀ (vs : List Value) (k : Nat) (cs : Array Value), off + k + vs.length ≤ cs.size →
    ((vs.zipIdx k).foldl (fun cs (x : Value × Nat) => cs.setIfInBounds (off + x.2) x.1) cs).toList = cs.toList.take (off + k) ++ vs ++ cs.toList.drop (off + k + vs.length)
  | [], k, cs, h => by simp
  | v :: vs, k, cs, h => by
    rw [List.length_cons] at h
    rw [List.zipIdx_cons, List.foldl_cons, fold_set off vs (k + 1) _ (by simp; omega)]
    apply List.ext_getElem?
    intro j
    rw [List.length_cons, mid_get _ vs (off + (k + 1)) vs.length rfl (by simp; omega), mid_get cs.toList (v :: vs) (off + k) (vs.length + 1) rfl (by simp; omega)]
    simp only [Array.toList_setIfInBounds, List.getElem?_set, Array.length_toList]
    by_cases h1 : j < off + k
    · rw [if_pos (by omega), if_pos h1, if_neg (by omega)]
    · rw [if_neg h1]
      by_cases h2 : j = off + k
      · subst h2
        rw [if_pos (by omega), if_pos rfl, if_pos (by omega), if_pos (by omega)]
        simp
      · rw [if_neg (by omega)]
        by_cases h3 : j < off + k + (vs.length + 1)
        · rw [if_pos (by omega), if_pos h3, show j - (off + k) = (j - (off + (k + 1))) + 1 by omega]
          simp
        · rw [if_neg (by omega), if_neg h3, if_neg (by omega)]
theorem fill_rep {place : Nat → Option (Nat × Nat)} {G : Imm} {φ : Loc} (a : Act) : ∀ {parts : List (Nat × Operand)} {xs : List (Nat × V)} {cells cells' : List V} {us : Array Value},
    (∀ p ∈ parts, ∀ X, ev ρ p.2 = some X → X.rep G φ (a.eval p.2)) → evParts ρ parts = some xs → fillV place cells xs = some cells' → repVs G φ cells us.toList → (∀ u ∈ us.toList, u.oneCell' = true) →
    ∃ us' : Array Value, Instr.fill place us (parts.map fun p => (p.1, a.eval p.2)) = some us' ∧ repVs G φ cells' us'.toList ∧ ∀ u ∈ us'.toList, u.oneCell' = true
  | [], xs, cells, cells', us, hm, h1, h2, h3, h4 => by
    simp [evParts] at h1; subst h1
    simp [fillV] at h2; subst h2
    exact ⟨us, rfl, h3, h4⟩
  | (i, x) :: r, xs, cells, cells', us, hm, h1, h2, h3, h4 => by
    unfold evParts at h1
    split at h1
    · rename_i X0 hX
      split at h1
      · rename_i ys hys
        injection h1 with h1; subst h1
        have hrep0 : X0.shut.rep G φ (a.eval x) := V.shut_rep (hm (i, x) List.mem_cons_self X0 hX)
        generalize X0.shut = X at h2 hrep0
        unfold fillV at h2
        split at h2
        · rename_i off size hp
          cases hcond : (X.cellB && Nat.beq X.cells.length size && Nat.ble (off + size) cells.length) with
          | false => rw [hcond] at h2; cases h2
          | true =>
            rw [hcond] at h2
            simp only [Bool.and_eq_true] at hcond
            obtain ⟨⟨c1, c2⟩, c3⟩ := hcond
            have c2 := Nat.eq_of_beq_eq_true c2
            have c3 := Nat.le_of_ble_eq_true c3
            have hrep : X.rep G φ (a.eval x) := hrep0
            obtain ⟨r1, r2⟩ := V.cells_rep' hrep c1
            have hl := repVs_len r1
            have hl3 := repVs_len h3
            have hsz : (a.eval x).cells.size = size := by have : (a.eval x).cells.toList.length = size := by omega
                                                          simpa using this
            have hfold := fold_set off (a.eval x).cells.toList 0 us (by simp at hl3 ⊢; omega)
            have := fill_rep a (place := place) (us := ((a.eval x).cells.toList.zipIdx 0).foldl (fun cs (x : Value × Nat) => cs.setIfInBounds (off + x.2) x.1) us) (fun p hp => hm p (List.mem_cons_of_mem _ hp)) hys h2
              (by rw [hfold]; simp only [Nat.add_zero, Array.length_toList, hsz]; exact repVs_append (repVs_append (repVs_take h3 _) r1) (repVs_drop h3 _))
              (by rw [hfold]; intro u hu
                  simp only [List.mem_append] at hu
                  rcases hu with (hu | hu) | hu
                  · exact h4 u (List.mem_of_mem_take hu)
                  · exact r2 u hu
                  · exact h4 u (List.mem_of_mem_drop hu))
            obtain ⟨us', g1, g2, g3⟩ := this
            refine ⟨us', ?_, g2, g3⟩
            rw [List.map_cons, Instr.fill, hp]
            have hcs : ¬ (off + (a.eval x).cells.size > us.size) := by simp at hl3; omega
            simp only [hsz, ne_eq, not_true_eq_false, decide_false, Bool.false_or, hcs]
            rw [← Array.foldl_toList, Array.toList_zipIdx]
            simp only [hsz] at hcs
            rw [if_neg (by simpa using hcs)]
            exact g1
        · cases h2
      · cases h1
    · cases h1
end
end Go.Proofs.YtblnfodnkacbbaaGreatDoor.Q

namespace Go.Proofs.YtblnfodnkacbbaaGreatDoor.Q
variable [Amb]
section
variable {P : Program} {tt : TT} {o : Oper} {ρ : Env} {H : List Ob} {K : Eff → Prop}

def placesV (tt : TT) : List (Nat × TypeId) → Option (List (Nat × Nat))
  | [] => some []
  | (off, t) :: r => match tt t with
    | some e => match placesV tt r with
      | some ps => some ((off, e.size) :: ps)
      | none => none
    | none => none
theorem run_places (htt : TTok P tt) (w : World) : ∀ (fs : List Field) (ps : List (Nat × Nat)), placesV tt (fs.map fun f => (f.offset, f.type)) = some ps →
    (fs.mapM (m := Sem) fun f => do pure (f.offset, ← sizeOf f.type)).run P w = .ok ps w
  | [], ps, h => by simp [placesV] at h; subst h; rfl
  | f :: fs, ps, h => by
    rw [List.map_cons] at h
    unfold placesV at h
    split at h
    · rename_i e he
      split at h
      · rename_i qs hqs
        injection h with h; subst h
        rw [List.mapM_cons, Sem.run_bind]
        have ih := run_places htt w fs qs hqs
        simp only [bind_pure_comp] at ih
        simp [run_sizeOf w htt he, ih]
      · cases h
    · cases h
def pBuild (tt : TT) (t : TypeId) (parts : List (Nat × V)) (K : Eff → Prop) : Prop :=
  match tt t with
  | some e =>
    match e.zero with
    | some z =>
      match e.kind with
      | .struct fs => match placesV tt fs with
        | some ps => match fillV (fun i => ps[i]?) z.cells parts with
          | some cs => condP z.cellB (kv K (.agg cs))
          | none => False
        | none => False
      | .arr n el => match tt el with
        | some te => match fillV (fun i => some (i * te.size, te.size)) z.cells parts with
          | some cs => condP z.cellB (kv K (.agg cs))
          | none => False
        | none => False
      | _ => False
    | none => False
  | none => False
theorem pBuild_sem (htt : TTok P tt) {t : TypeId} {parts : Array (Nat × Operand)} {xs : List (Nat × V)} (ho : o.op = .build t parts) (hx : evParts ρ parts.toList = some xs) (h : pBuild tt t xs K) : ∃ e, K e ∧ Tri P o ρ H e := by
  have hm : ∀ (a : Act) (G : Imm) (φ : Loc), OpRep o ρ a G φ → ∀ p ∈ parts.toList, ∀ X, ev ρ p.2 = some X → X.rep G φ (a.eval p.2) := by
    intro a G φ hr p hp X hX
    refine hr p.2 X ?_ hX
    rw [ho]
    simp [Op.operands]
    exact ⟨p.1, by simpa using hp⟩
  have hparts : ∀ (a : Act), (parts.map fun (i, x) => (i, a.eval x)).toList = parts.toList.map fun p => (p.1, a.eval p.2) := by
    intro a; simp
  unfold pBuild at h
  split at h
  · rename_i e he
    obtain ⟨ti, d, h1, h2, _, _, h3, _⟩ := tt_get htt he
    split at h
    · rename_i z hz
      split at h
      · rename_i fs hk
        rw [hk] at h3
        obtain ⟨gs, rfl, hgs⟩ := mkK_struct h3
        split at h
        · rename_i ps hps
          split at h
          · rename_i cs hcs
            obtain ⟨hc, h⟩ := condP_out h
            refine kv_sem h fun a G w φ hi hr => ?_
            obtain ⟨v, v1, v2, _⟩ := run_zero (P := P) w htt he hz
            obtain ⟨r1, r2⟩ := V.cells_rep' (v2 G φ) hc
            obtain ⟨us', g1, g2, g3⟩ := fill_rep a (us := v.cells) (hm a G φ hr) hx hcs r1 r2
            refine ⟨.agg us', ?_, ⟨us'.toList, by simp, g2, g3⟩⟩
            rw [← hgs] at hps
            have hpl := run_places (P := P) htt w _ _ hps
            have hfill : Instr.fill (fun x => ps[x]?) v.cells (parts.toList.map fun p => (p.1, a.eval p.2)) = some us' := g1
            unfold execOp
            rw [ho]
            simp only [Instr.build, Sem.run_bind, v1, Result.andThen_ok, run_underlying h2, Array.mapM_eq_mapM_toList, Sem.run_map, hpl, hparts]
            simp [hfill]
          · exact h.elim
        · exact h.elim
      · rename_i n el hk
        rw [hk] at h3
        rw [mkK_arr h3] at h2
        split at h
        · rename_i te hte
          split at h
          · rename_i cs hcs
            obtain ⟨hc, h⟩ := condP_out h
            refine kv_sem h fun a G w φ hi hr => ?_
            obtain ⟨v, v1, v2, _⟩ := run_zero (P := P) w htt he hz
            obtain ⟨r1, r2⟩ := V.cells_rep' (v2 G φ) hc
            obtain ⟨us', g1, g2, g3⟩ := fill_rep a (us := v.cells) (hm a G φ hr) hx hcs r1 r2
            refine ⟨.agg us', ?_, ⟨us'.toList, by simp, g2, g3⟩⟩
            unfold execOp
            rw [ho]
            simp only [Instr.build, Sem.run_bind, v1, Result.andThen_ok, run_underlying h2, run_sizeOf w htt hte, hparts]
            simp [g1]
          · exact h.elim
        · exact h.elim
      · exact h.elim
    · exact h.elim
  · exact h.elim

/-! ### rows in cells -/
/-- Cells that say rows. -/
def RowsIn (G : Imm) (us : List Value) (e : Nat) (rows : List (List D)) : Prop := us.length = rows.length * e ∧ ∀ (i : Nat) r, rows[i]? = some r → r.length = e ∧ ∀ (j : Nat) d, r[j]? = some d → ∃ u, us[i * e + j]? = some u ∧ d.rep G u
theorem RowsIn.one {G : Imm} {us : List Value} {e : Nat} {rows : List (List D)} (h : RowsIn G us e rows) : ∀ u ∈ us, u.oneCell' = true := by
  intro u hu
  obtain ⟨k, hk⟩ := List.getElem?_of_mem hu
  have hlt := lt_of_get hk
  rw [h.1] at hlt
  have he : 0 < e := by
    rcases Nat.eq_zero_or_pos e with h0 | h0
    · rw [h0] at hlt; omega
    · exact h0
  have hi : k / e < rows.length := by rw [Nat.div_lt_iff_lt_mul he]; exact hlt
  obtain ⟨h1, h2⟩ := h.2 (k / e) rows[k / e] (List.getElem?_eq_getElem hi)
  have hj : k % e < rows[k / e].length := by rw [h1]; exact Nat.mod_lt _ he
  obtain ⟨u', g1, g2⟩ := h2 (k % e) _ (List.getElem?_eq_getElem hj)
  rw [Nat.div_add_mod' k e, hk] at g1
  injection g1 with g1
  rw [g1]; exact D.rep_one g2
theorem RowsIn.mono {G G' : Imm} {us : List Value} {e : Nat} {rows : List (List D)} (h : RowsIn G us e rows) (hle : G.le G') : RowsIn G' us e rows :=
  ⟨h.1, fun i r hi => ⟨(h.2 i r hi).1, fun j d hj => by obtain ⟨u, g1, g2⟩ := (h.2 i r hi).2 j d hj; exact ⟨u, g1, d.rep_mono hle u g2⟩⟩⟩
theorem RowsIn.append {G : Imm} {us vs : List Value} {e : Nat} {rows qs : List (List D)} (h : RowsIn G us e rows) (k : RowsIn G vs e qs) : RowsIn G (us ++ vs) e (rows ++ qs) := by
  refine ⟨by rw [List.length_append, List.length_append, h.1, k.1, Nat.add_mul], fun i r hi => ?_⟩
  rw [List.getElem?_append] at hi
  split at hi
  · rename_i hlt
    refine ⟨(h.2 i r hi).1, fun j d hj => ?_⟩
    obtain ⟨u, g1, g2⟩ := (h.2 i r hi).2 j d hj
    exact ⟨u, by rw [List.getElem?_append_left (lt_of_get g1)]; exact g1, g2⟩
  · rename_i hge
    refine ⟨(k.2 _ r hi).1, fun j d hj => ?_⟩
    obtain ⟨u, g1, g2⟩ := (k.2 _ r hi).2 j d hj
    have e1 : rows.length * e + (i - rows.length) * e = i * e := by rw [← Nat.add_mul]; congr 1; omega
    refine ⟨u, ?_, g2⟩
    rw [List.getElem?_append_right (by rw [h.1]; omega), h.1, show i * e + j - rows.length * e = (i - rows.length) * e + j by omega]
    exact g1
theorem RowsIn.set {G : Imm} {us : List Value} {e : Nat} {rows : List (List D)} (h : RowsIn G us e rows) {i : Nat} (hi : i < rows.length) {vs : List Value} {row : List D} (hl : row.length = e) (hv : vs.length = e) (hr : ∀ (j : Nat) d, row[j]? = some d → ∃ u, vs[j]? = some u ∧ d.rep G u) :
    RowsIn G (us.take (i * e) ++ vs ++ us.drop (i * e + e)) e (rows.set i row) := by
  have hmul : (i + 1) * e ≤ rows.length * e := Nat.mul_le_mul_right _ hi
  rw [Nat.succ_mul] at hmul
  have hul := h.1
  refine ⟨by rw [List.length_append, List.length_append, List.length_take, List.length_drop, List.length_set]; omega, fun k r hk => ?_⟩
  rw [List.getElem?_set] at hk
  by_cases hik : i = k
  · subst hik
    simp only [if_true, hi] at hk
    injection hk with hk; subst hk
    refine ⟨hl, fun j d hj => ?_⟩
    have hjl := lt_of_get hj
    rw [mid_get us vs (i * e) e hv (by omega), if_neg (by omega), if_pos (by omega), show i * e + j - i * e = j by omega]
    exact hr j d hj
  · simp only [hik, if_false] at hk
    refine ⟨(h.2 k r hk).1, fun j d hj => ?_⟩
    have hjl := lt_of_get hj
    rw [(h.2 k r hk).1] at hjl
    rw [mid_get us vs (i * e) e hv (by omega)]
    rcases Nat.lt_or_gt_of_ne hik with hlt | hgt
    · have : (i + 1) * e ≤ k * e := Nat.mul_le_mul_right _ hlt
      rw [Nat.succ_mul] at this
      rw [if_neg (by omega), if_neg (by omega)]
      exact (h.2 k r hk).2 j d hj
    · have : (k + 1) * e ≤ i * e := Nat.mul_le_mul_right _ hgt
      rw [Nat.succ_mul] at this
      rw [if_pos (by omega)]
      exact (h.2 k r hk).2 j d hj
theorem zeros_get (z : Array Value) (n j : Nat) (hj : j < n) : (madeCells z n).toList[j]? = some z[j % z.size]! := by
  simp [madeCells, hj]
theorem zeros_rows {G : Imm} {z : Array Value} {zr : List D} (hz : z.size = zr.length) (hr : ∀ (j : Nat) d, zr[j]? = some d → ∃ u, z.toList[j]? = some u ∧ d.rep G u) (n : Nat) : RowsIn G (madeCells z (n * zr.length)).toList zr.length (List.replicate n zr) := by
  refine ⟨by simp [size_madeCells], fun i r hi => ?_⟩
  rw [List.getElem?_replicate] at hi
  split at hi
  · rename_i hlt
    injection hi with hi; subst hi
    refine ⟨rfl, fun j d hj => ?_⟩
    obtain ⟨u, g1, g2⟩ := hr j d hj
    have hjl := lt_of_get hj
    have hm : (i + 1) * zr.length ≤ n * zr.length := Nat.mul_le_mul_right _ hlt
    rw [Nat.succ_mul] at hm
    refine ⟨u, ?_, g2⟩
    rw [zeros_get _ _ _ (by omega), hz]
    have : (i * zr.length + j) % zr.length = j := by rw [Nat.mul_comm, Nat.mul_add_mod]; exact Nat.mod_eq_of_lt hjl
    rw [this]
    have hjz : j < z.size := by omega
    rw [Array.getElem?_toList, Array.getElem?_eq_getElem hjz] at g1
    injection g1 with g1
    rw [getElem!_pos z j hjz, g1]
  · cases hi

/-- What is known for good, and a new block's cells. -/
def addBlk (G : Imm) (b : Nat) (us : List Value) : Imm := fun b' o => if b' = b then us[o]? else G b' o
theorem addBlk_le {G : Imm} {b : Nat} (h : ∀ o, G b o = none) (us : List Value) : G.le (addBlk G b us) := fun b' o v e => by
  unfold addBlk
  split
  · rename_i hb; rw [hb, h] at e; cases e
  · exact e
theorem RowsIn.rows {G : Imm} {us : List Value} {e : Nat} {rows : List (List D)} (h : RowsIn G us e rows) {G' : Imm} (hle : G.le G') {b o : Nat} (hG : ∀ (j : Nat) u, us[j]? = some u → G' b (o + j) = some u) : repRows G' b o e rows :=
  repRows_of fun i r hi => ⟨(h.2 i r hi).1, repRow_of fun j d hj => by
    obtain ⟨u, g1, g2⟩ := (h.2 i r hi).2 j d hj
    exact ⟨u, by rw [Nat.add_assoc]; exact hG _ u g1, d.rep_mono hle u g2⟩⟩
theorem Inv.addBlk {G : Imm} {w : World} (h : Inv G w) (us vs : List Value) (T : TypeId) (hone : ∀ u ∈ us, u.oneCell' = true) : Inv (addBlk G w.heap.size us) (w.alloc (.cells (us ++ vs).toArray T)) := h.of (addBlk_le (h.fresh (Nat.le_refl _)) us) (fun b cs T' fr hb _ _ => by
  show (w.heap.push _)[b]? = _
  rw [Array.getElem?_push, if_neg (by have := (Array.getElem?_eq_some_iff.1 hb).1; omega)]) fun b o v hg => by
  unfold Q.addBlk at hg
  split at hg
  · rename_i hb
    subst hb
    refine .inl ⟨?_, hone v (List.mem_of_getElem? hg)⟩
    rw [cell_us _ (heap_new w _), List.getElem?_append_left (lt_of_get hg)]
    exact hg
  · exact ((h.alloc _).1 b o v hg).go (addBlk_le (h.fresh (Nat.le_refl _)) us) (fun x => x) fun _ => rfl
theorem heap_old (w : World) (o : Obj) {b : Nat} (hb : b < w.heap.size) : (w.alloc o).heap[b]? = w.heap[b]? := by
  show (w.heap.push o)[b]? = _
  rw [Array.getElem?_push, if_neg (by omega)]
/-- A new block that never changes. -/
theorem Sit.imm {G : Imm} {w : World} {φ : Loc} {Hx : Hp} (hs : Sit G w φ Hx) (us : List Value) (T : TypeId) (hone : ∀ u ∈ us, u.oneCell' = true) :
    Sit (addBlk G w.heap.size us) (w.alloc (.cells us.toArray T)) φ Hx ∧ Goes G w φ Hx (addBlk G w.heap.size us) (w.alloc (.cells us.toArray T)) φ Hx := by
  have hfresh := hs.inv.fresh (Nat.le_refl _)
  refine hs.step (fun _ => False) (addBlk_le hfresh us) (Loc.le.refl _) (fun _ _ _ => rfl) rfl rfl rfl (by simp) ?_ (fun _ _ => rfl) (by simpa using hs.inv.addBlk us [] T hone) ?_ ?_ ?_ ?_
  · intro b hb _
    refine ⟨heap_old w _ hb, fun o => ?_⟩
    unfold addBlk
    rw [if_neg (by omega)]
  all_goals (intros; contradiction)

/-! ### slices written out -/
def rowsOf (sz : Nat) : List (List D) → List (Nat × V) → Option (List (List D))
  | rows, [] => some rows
  | rows, (i, x) :: r => match toDs x.cells with
    | some ds => bif x.cellB && Nat.beq ds.length sz && Nat.blt i rows.length then rowsOf sz (rows.set i ds) r else none
    | none => none
def pBS (tt : TT) (t : TypeId) (len : Nat) (parts : List (Nat × V)) (K : Eff → Prop) : Prop :=
  match tt t with
  | some e =>
    match e.kind with
    | .slice el => match tt el with
      | some te => match te.zero with
        | some z => match toDs z.cells with
          | some zr => match rowsOf te.size (List.replicate len zr) parts with
            | some rows => condP (z.cellB && Nat.beq zr.length te.size && Nat.ble 1 te.size && Nat.ble (len * te.size) 16777216) (kv K (.fsl rows))
            | none => False
          | none => False
        | none => False
      | none => False
    | _ => False
  | none => False
theorem rowsOf_rep {sz : Nat} {G : Imm} {φ : Loc} (a : Act) : ∀ {parts : List (Nat × Operand)} {xs : List (Nat × V)} {rows rows' : List (List D)} {us : Array Value},
    (∀ p ∈ parts, ∀ X, ev ρ p.2 = some X → X.rep G φ (a.eval p.2)) → evParts ρ parts = some xs → rowsOf sz rows xs = some rows' → RowsIn G us.toList sz rows →
    ∃ us' : Array Value, Instr.fill (fun i => some (i * sz, sz)) us (parts.map fun p => (p.1, a.eval p.2)) = some us' ∧ RowsIn G us'.toList sz rows' ∧ rows'.length = rows.length
  | [], xs, rows, rows', us, hm, h1, h2, h3 => by
    simp [evParts] at h1; subst h1
    simp [rowsOf] at h2; subst h2
    exact ⟨us, rfl, h3, rfl⟩
  | (i, x) :: r, xs, rows, rows', us, hm, h1, h2, h3 => by
    unfold evParts at h1
    split at h1
    · rename_i X0 hX
      split at h1
      · rename_i ys hys
        injection h1 with h1; subst h1
        have hrep0 : X0.shut.rep G φ (a.eval x) := V.shut_rep (hm (i, x) List.mem_cons_self X0 hX)
        generalize X0.shut = X at h2 hrep0
        unfold rowsOf at h2
        split at h2
        · rename_i ds hds
          cases hcond : (X.cellB && Nat.beq ds.length sz && Nat.blt i rows.length) with
          | false => rw [hcond] at h2; cases h2
          | true =>
            rw [hcond] at h2
            simp only [Bool.and_eq_true] at hcond
            obtain ⟨⟨c1, c2⟩, c3⟩ := hcond
            have c2 := Nat.eq_of_beq_eq_true c2
            have c3 : i < rows.length := Nat.le_of_ble_eq_true c3
            have hrep : X.rep G φ (a.eval x) := hrep0
            obtain ⟨r1, r2⟩ := V.cells_rep' hrep c1
            obtain ⟨d1, d2⟩ := toDs_rep r1 hds
            have hl := repVs_len r1
            have hsz : (a.eval x).cells.size = sz := by
              have : (a.eval x).cells.toList.length = sz := by omega
              simpa using this
            have hmul : (i + 1) * sz ≤ rows.length * sz := Nat.mul_le_mul_right _ c3
            rw [Nat.succ_mul] at hmul
            have hus := h3.1
            have hfit : i * sz + sz ≤ us.size := by simp at hus; omega
            have hfold := fold_set (i * sz) (a.eval x).cells.toList 0 us (by simp; omega)
            obtain ⟨us', g1, g2, g3⟩ := rowsOf_rep a (us := ((a.eval x).cells.toList.zipIdx 0).foldl (fun cs (x : Value × Nat) => cs.setIfInBounds (i * sz + x.2) x.1) us) (fun p hp => hm p (List.mem_cons_of_mem _ hp)) hys h2
              (by rw [hfold]; simp only [Nat.add_zero, Array.length_toList, hsz]; exact h3.set c3 c2 (by simpa using hsz) d2)
            refine ⟨us', ?_, g2, by rw [g3]; simp⟩
            rw [List.map_cons, Instr.fill]
            have hcs : ¬ (i * sz + sz > us.size) := by omega
            simp only [hsz, ne_eq, not_true_eq_false, decide_false, Bool.false_or]
            rw [← Array.foldl_toList, Array.toList_zipIdx]
            rw [if_neg (by simpa using hcs)]
            exact g1
        · cases h2
      · cases h1
    · cases h1
theorem pBS_sem (htt : TTok P tt) {t : TypeId} {len : Nat} {parts : Array (Nat × Operand)} {xs : List (Nat × V)} (ho : o.op = .buildSlice t len parts) (hx : evParts ρ parts.toList = some xs) (h : pBS tt t len xs K) : ∃ e, K e ∧ Tri P o ρ H e := by
  have hm : ∀ (a : Act) (G : Imm) (φ : Loc), OpRep o ρ a G φ → ∀ p ∈ parts.toList, ∀ X, ev ρ p.2 = some X → X.rep G φ (a.eval p.2) := by
    intro a G φ hr p hp X hX
    refine hr p.2 X ?_ hX
    rw [ho]
    simp [Op.operands]
    exact ⟨p.1, by simpa using hp⟩
  have hparts : ∀ (a : Act), (parts.map fun (i, x) => (i, a.eval x)).toList = parts.toList.map fun p => (p.1, a.eval p.2) := by
    intro a; simp
  unfold pBS at h
  split at h
  · rename_i e he
    obtain ⟨ti, d, h1, h2, _, _, h3, _⟩ := tt_get htt he
    split at h
    · rename_i el hk
      rw [hk] at h3; rw [mkK_slice h3] at h2
      split at h
      · rename_i te hte
        split at h
        · rename_i z hz
          split at h
          · rename_i zr hzr
            split at h
            · rename_i rows hrows
              obtain ⟨hc, h⟩ := condP_out h
              simp only [Bool.and_eq_true] at hc
              obtain ⟨⟨⟨c0, c1⟩, c2⟩, c3⟩ := hc
              have c1 := Nat.eq_of_beq_eq_true c1
              have c2 := Nat.le_of_ble_eq_true c2
              have c3 := Nat.le_of_ble_eq_true c3
              refine ⟨_, h, ⟨by simp, by simp, fun a G w φ Hx K Q hs hr ha hf hK => ?_⟩⟩
              obtain ⟨v, v1, v2, _⟩ := run_zero (P := P) w htt hte hz
              obtain ⟨r1, r2⟩ := V.cells_rep' (v2 G φ) c0
              obtain ⟨d1, d2⟩ := toDs_rep r1 hzr
              have hvs : v.cells.size = zr.length := by
                have := repVs_len r1
                simp at this; omega
              have hz0 := zeros_rows (G := G) hvs d2 len
              rw [c1] at hz0
              obtain ⟨us', g1, g2, g3⟩ := rowsOf_rep a (hm a G φ hr) hx hrows hz0
              have hstep := hs.imm us'.toList el g2.one
              have hrl : rows.length = len := by rw [g3]; simp
              rw [upd_nil] at hK
              have hrun : (execOp a.eval o).run P w = .ok (.value (.slice (some ⟨w.heap.size, 0, none⟩) len len)) (w.alloc (.cells us'.toList.toArray el)) := by
                unfold execOp
                rw [ho]
                have hsmall : ¬ len * te.size > 2 ^ 24 := by omega
                by_cases hl0 : len * te.size = 0
                · have hl : len = 0 := by
                    rcases Nat.mul_eq_zero.1 hl0 with h0 | h0
                    · exact h0
                    · omega
                  subst hl
                  have g1' : Instr.fill (fun i => some (i * te.size, te.size)) #[] (parts.toList.map fun p => (p.1, a.eval p.2)) = some us' := by
                    have : madeCells v.cells (0 * te.size) = #[] := by simp [madeCells, Array.range_zero']
                    rw [← this]; exact g1
                  simp only [Instr.buildSlice, Sem.run_bind, run_underlying h2, Result.andThen_ok, run_sizeOf w htt hte, hparts]
                  simp [g1', newRow, Array.range_zero']
                · simp only [Instr.buildSlice, Sem.run_bind, run_underlying h2, Result.andThen_ok, run_sizeOf w htt hte, hparts, if_neg hsmall, if_neg hl0, Sem.run_pure, v1]
                  have g1' : Instr.fill (fun i => some (i * te.size, te.size)) ((Array.range (len * te.size)).map (v.cells[· % v.cells.size]!)) (parts.toList.map fun p => (p.1, a.eval p.2)) = some us' := g1
                  simp [g1', newRow]
              unfold Oper.wp
              rw [hrun, Oper.upon_value]
              refine hK _ _ _ _ hstep.1 hstep.2 ⟨some (w.heap.size, 0), by rw [hrl]; rfl, fun _ => ⟨w.heap.size, 0, te.size, rfl, g2.rows hstep.2.le fun j u hj => ?_⟩⟩
              unfold addBlk
              rw [if_pos rfl, Nat.zero_add]; exact hj
            · exact h.elim
          · exact h.elim
        · exact h.elim
      · exact h.elim
    · exact h.elim
  · exact h.elim
end
end Go.Proofs.YtblnfodnkacbbaaGreatDoor.Q

namespace Go.Proofs.YtblnfodnkacbbaaGreatDoor.Q
variable [Amb]
section
variable {P : Program} {tt : TT} {o : Oper} {ρ : Env} {H : List Ob} {K : Eff → Prop}

def isZero : Operand → Bool
  | .const (.int _ n) => n == 0
  | _ => false
def pMake (tt : TT) (t : TypeId) (grow : Bool) (X Y : V) (H : List Ob) (K : Eff → Prop) : Prop :=
  match tt t, X, Y with
  | some e, .d (.int _ l), .d (.int _ c) =>
    match e.kind with
    | .slice el => match tt el with
      | some te => match te.zero with
        | some z => match toDs z.cells with
          | some zr => condP (z.cellB && Nat.beq zr.length te.size && Nat.ble te.bytes 65536) ((0 ≤ l ∧ l ≤ c ∧ c ≤ 1073741824) ∧ match grow with
            | true => l = 0 ∧ K ⟨.gsl [] H.length, [], [], [.tip te.size 0]⟩
            | false => l = c ∧ K ⟨.arr H.length 0 l.toNat, [], [], [.parr te.size (List.replicate l.toNat zr)]⟩)
          | none => False
        | none => False
      | none => False
    | _ => False
  | _, _, _ => False
theorem pMake_sem (htt : TTok P tt) {t : TypeId} {x y : Operand} {X Y : V} {g : Bool} (ho : o.op = .makeSlice t x y) (hx : ev ρ x = some X) (hy : ev ρ y = some Y) (h : pMake tt t g X Y H K) : ∃ e, K e ∧ Tri P o ρ H e := by
  have hox : x ∈ o.op.operands := by rw [ho]; simp [Op.operands]
  have hoy : y ∈ o.op.operands := by rw [ho]; simp [Op.operands]
  unfold pMake at h
  split at h
  · rename_i e kl l kc c he
    obtain ⟨ti, d, h1, h2, _, _, h3, _⟩ := tt_get htt he
    split at h
    · rename_i el hk
      rw [hk] at h3; rw [mkK_slice h3] at h2
      split at h
      · rename_i te hte
        obtain ⟨i, d', i1, i2, i3, i4, _, i5⟩ := tt_get htt hte
        split at h
        · rename_i z hz
          rw [hz, Option.bind_eq_some_iff] at i5
          obtain ⟨v, hv, hvz⟩ := i5
          split at h
          · rename_i zr hzr
            obtain ⟨hc, ⟨l0, lc, cb⟩, h'⟩ := condP_out h
            clear h
            simp only [Bool.and_eq_true] at hc
            obtain ⟨⟨c0, c1⟩, c2⟩ := hc
            have c1 := Nat.eq_of_beq_eq_true c1
            have c2 := Nat.le_of_ble_eq_true c2
            have hbytes : (i.bytes : Int) * c ≤ 281474976710656 := by
              rw [i4]
              have h1 : (te.bytes : Int) * c ≤ 65536 * c := Int.mul_le_mul_of_nonneg_right (by omega) (by omega)
              omega
            have run : ∀ (a : Act) (G : Imm) (w : World) (φ : Loc), OpRep o ρ a G φ → (execOp a.eval o).run P w = .ok (.value (.slice (some ⟨w.heap.size, 0, none⟩) l.toNat c.toNat)) (w.alloc (.cells (madeCells v.cells (c.toNat * te.size)) el)) := by
              intro a G w φ hr
              have ex : a.eval x = .int kl l := hr x _ hox hx
              have ey : a.eval y = .int kc c := hr y _ hoy hy
              unfold execOp
              rw [ho]
              have := run_make (P := P) w t el i v h2 i1 hv kl kc l c l0 lc hbytes (by omega)
              rw [i3] at this
              simp [ex, ey, this]
            split at h'
            · obtain ⟨hl, hfin⟩ := h'
              subst hl
              refine ⟨_, hfin, ⟨by simp, by simp, fun a G w φ Hx K Q hs hr ha hf hK => ?_⟩⟩
              have hn : Hx H.length = none := hf _ (Nat.le_refl _) (by simp)
              have hst := hs.add H.length 0 c.toNat (.tip te.size 0) (.cells (madeCells v.cells (c.toNat * te.size)) el) hn
                ⟨some (w.heap.size, 0), c.toNat, setLoc_same _ _ _ _, Nat.zero_le _, fun m hm => by
                  unfold setLoc
                  rw [if_neg (by omega)]
                  exact hs.un _ hn m, fun _ => ⟨w.heap.size, 0, _, el, (0, 0), rfl, heap_new w _, by rw [size_madeCells]; omega, fun j _ => hs.inv.fresh (Nat.le_refl _) j, Nat.zero_le _⟩⟩
                (fun b hb => by
                  simp only [Owns, own, setLoc_same] at hb
                  split at hb
                  · injection hb with hb; exact hb.symm
                  · cases hb)
              rw [upd_new] at hK
              unfold Oper.wp
              rw [run a G w φ hr, Oper.upon_value]
              refine hK _ _ _ _ hst.1 hst.2 ⟨some (w.heap.size, 0), c.toNat, setLoc_same _ _ _ _, rfl, Nat.zero_le _, by simp⟩
            · obtain ⟨hl, hfin⟩ := h'
              subst hl
              refine ⟨_, hfin, ⟨by simp, by simp, fun a G w φ Hx K Q hs hr ha hf hK => ?_⟩⟩
              have hn : Hx H.length = none := hf _ (Nat.le_refl _) (by simp)
              obtain ⟨r1, r2⟩ := V.cells_rep' (ofConst_rep hvz G φ) c0
              obtain ⟨d1, d2⟩ := toDs_rep r1 hzr
              have hvs : v.cells.size = zr.length := by
                have := repVs_len r1
                simp at this; omega
              have hz0 := zeros_rows (G := G) hvs d2 l.toNat
              rw [c1] at hz0
              have hst := hs.add H.length 0 te.size (.parr te.size (List.replicate l.toNat zr)) (.cells (madeCells v.cells (l.toNat * te.size)).toList.toArray el) hn
                ⟨w.heap.size, el, _, setLoc_same _ _ _ _, heap_new w _, Nat.le_of_eq hz0.1.symm, hz0.2, hs.inv.fresh (Nat.le_refl _)⟩
                (fun b hb => by simp [Owns, own, setLoc_same] at hb; exact hb.symm)
              rw [upd_new] at hK
              unfold Oper.wp
              rw [run a G w φ hr, Oper.upon_value]
              refine hK _ _ _ _ (by simpa using hst.1) (by simpa using hst.2) ⟨w.heap.size, te.size, setLoc_same _ _ _ _, l.toNat, Nat.le_refl _, by simp⟩
          · exact h.elim
        · exact h.elim
      · exact h.elim
    · exact h.elim
  · exact h.elim

/-! ### append -/
section
variable (w : World)
theorem run_app_same (t t2 ty el : TypeId) (d2 : TypeDesc) (i : TypeInfo) (ht : P.underlying t = some (.slice el)) (h2 : P.underlying t2 = some d2) (hd : (∃ e, d2 = .slice e) ∨ d2 = .string) (hi : P.info? el = some i)
    (A : Option Addr) (n c : Nat) (x : Value) (hm : (Builtin.lenOf x).run P w = .ok 0 w) (hf : (Builtin.firstCells i.size 0 x).run P w = .ok #[] w) (hnc : n ≤ c) :
    (Builtin.append_ #[t, t2] ty #[.slice A n c, x]).run P w = .ok (.slice A n c) w := by
  rcases hd with ⟨e2, rfl⟩ | rfl
  all_goals (cases A <;> simp [Builtin.append_, run_underlying ht, run_underlying h2, sizeOf, typeInfo, hi, hm, hf, hnc, storeCells])
theorem run_app_room (t t2 ty el : TypeId) (d2 : TypeDesc) (i : TypeInfo) (ht : P.underlying t = some (.slice el)) (h2 : P.underlying t2 = some d2) (hd : (∃ e, d2 = .slice e) ∨ d2 = .string) (hi : P.info? el = some i)
    (b p n c m : Nat) (x : Value) (news : List Value) (w' : World) (hm : (Builtin.lenOf x).run P w = .ok m w) (hf : (Builtin.firstCells i.size m x).run P w = .ok news.toArray w) (hnc : n + m ≤ c)
    (hst : (storeCells ⟨b, p + n * i.size, none⟩ news).run P w = .ok () w') :
    (Builtin.append_ #[t, t2] ty #[.slice (some ⟨b, p, none⟩) n c, x]).run P w = .ok (.slice (some ⟨b, p, none⟩) (n + m) c) w' := by
  rcases hd with ⟨e2, rfl⟩ | rfl
  all_goals simp [Builtin.append_, run_underlying ht, run_underlying h2, sizeOf, typeInfo, hi, hm, hf, hnc, add_lit, hst]
theorem run_app_grow (t t2 ty el : TypeId) (d2 : TypeDesc) (i : TypeInfo) (z : Value) (ht : P.underlying t = some (.slice el)) (h2 : P.underlying t2 = some d2) (hd : (∃ e, d2 = .slice e) ∨ d2 = .string) (hi : P.info? el = some i) (hz : i.zero = some z)
    (A : Option Addr) (n c m : Nat) (x : Value) (olds news : List Value) (hm : (Builtin.lenOf x).run P w = .ok m w) (hf : (Builtin.firstCells i.size m x).run P w.drew = .ok news.toArray w.drew)
    (ho : (Builtin.firstCells i.size n (.slice A n c)).run P w.drew = .ok olds.toArray w.drew) (hnc : c < n + m) (h63 : n + m ≤ 9223372036854775807) (hfit : Builtin.nextslicecap (n + m) c * i.bytes ≤ 281474976710656) :
    (Builtin.append_ #[t, t2] ty #[.slice A n c, x]).run P w = .ok (.slice (some ⟨w.heap.size, 0, none⟩) (n + m) (grownCap w (n + m) c el)) (w.drew.alloc (.cells (olds ++ news ++ (Builtin.zeroCells z.cells (grownCap w (n + m) c el - (n + m))).toList).toArray el)) := by
  have hn : ¬ (n + m ≤ c) := by omega
  have h63' : ¬ (9223372036854775807 < ((n : Int) + (m : Int))) := by omega
  have h48' : ¬ (281474976710656 < Builtin.nextslicecap (n + m) c * i.bytes) := by omega
  rcases hd with ⟨e2, rfl⟩ | rfl
  all_goals
    simp [Builtin.append_, run_underlying ht, run_underlying h2, sizeOf, typeInfo, zeroValue, hi, hz, hm, hn, h63', h48', Question.forced, hf, ho, newRow, grownCap]
    congr 2
    apply Array.ext'
    simp
end

def RL (rows : List (List D)) (n : Nat) : Prop := ∀ r ∈ rows, r.length = n
def rowsX (tt : TT) (t : TypeId) : V → Option (List (List D))
  | .d (.sl rows) => match tt t with
    | some e => match e.kind with
      | .slice _ => some rows
      | _ => none
    | none => none
  | .fsl rows => match tt t with
    | some e => match e.kind with
      | .slice _ => some rows
      | _ => none
    | none => none
  | .gsl rows _ => match tt t with
    | some e => match e.kind with
      | .slice _ => some rows
      | _ => none
    | none => none
  | .d (.str s) => match tt t with
    | some e => match e.kind with
      | .str => some (s.map fun c => [.int .u8 c.toNat])
      | _ => none
    | none => none
  | _ => none
/-- What is appended: its cells can be read. -/
theorem rowsX_run (htt : TTok P tt) {t2 : TypeId} {X : V} {rows : List (List D)} {e : Nat} (h : rowsX tt t2 X = some rows) (hl : RL rows e) {G : Imm} {φ : Loc} {v : Value} (hr : X.rep G φ v) (w : World) (hi : Inv G w) :
    ∃ d2, P.underlying t2 = some d2 ∧ ((∃ e, d2 = .slice e) ∨ d2 = .string) ∧ (Builtin.lenOf v).run P w = .ok rows.length w ∧ ∃ news, RowsIn G news e rows ∧ (Builtin.firstCells e rows.length v).run P w = .ok news.toArray w := by
  have sl : ∀ (te : TE) (el : TypeId) (A : Option Addr) (c : Nat), tt t2 = some te → te.kind = .slice el → v = .slice A rows.length c → (rows ≠ [] → ∃ b o e, A = some ⟨b, o, none⟩ ∧ repRows G b o e rows) → ∃ d2, P.underlying t2 = some d2 ∧ ((∃ e, d2 = .slice e) ∨ d2 = .string) ∧ (Builtin.lenOf v).run P w = .ok rows.length w ∧ ∃ news, RowsIn G news e rows ∧ (Builtin.firstCells e rows.length v).run P w = .ok news.toArray w := by
    intro te el A c hte hk hv hrows
    obtain ⟨ti, d, _, h2, _, _, h3, _⟩ := tt_get htt hte
    rw [hk] at h3; rw [mkK_slice h3] at h2
    refine ⟨_, h2, .inl ⟨_, rfl⟩, by rw [hv]; rfl, ?_⟩
    by_cases hn : rows = []
    · subst hn
      refine ⟨[], ⟨by simp, by simp⟩, ?_⟩
      rw [hv]
      cases A with
      | none => rfl
      | some p => simp [Builtin.firstCells, loadCells, loadCellsFrom]
    · obtain ⟨b, p, e', rfl, hrr⟩ := hrows hn
      have he : e' = e := by
        obtain ⟨r, hr⟩ := List.exists_mem_of_ne_nil rows hn
        rw [← repRows_len hrr r hr, hl r hr]
      subst he
      have key : ∀ (qs : List (List D)) (p : Nat), repRows G b p e' qs → ∃ news : List Value, RowsIn G news e' qs ∧ ∀ (j : Nat) u, news[j]? = some u → G b (p + j) = some u := by
        intro qs
        induction qs with
        | nil => exact fun p _ => ⟨[], ⟨by simp, by simp⟩, by simp⟩
        | cons r qs ih =>
          intro p hq
          obtain ⟨g1, g2, g3⟩ := hq
          obtain ⟨ns, n1, n2⟩ := ih (p + e') g3
          obtain ⟨us, u1, u2, u3, u4⟩ := repRow_cells g2
          have hr1 : RowsIn G us e' [r] := ⟨by rw [u1]; simp [g1], fun i r' hi => by
            cases i with
            | zero => simp at hi; subst hi; exact ⟨g1, fun j d hj => by simpa using u2 j d hj⟩
            | succ i => simp at hi⟩
          refine ⟨us ++ ns, by simpa using hr1.append n1, fun j u hj => ?_⟩
          rw [List.getElem?_append] at hj
          split at hj
          · exact u3 j u hj
          · rename_i hge
            have := n2 _ u hj
            rwa [show p + e' + (j - us.length) = p + j by omega] at this
      obtain ⟨news, n1, n2⟩ := key rows p hrr
      refine ⟨news, n1, ?_⟩
      rw [hv]
      exact run_firstCells_some (P := P) w e' rows.length ⟨b, p, none⟩ rows.length c news (by rw [n1.1]) (fun j u hj => by rw [add_lit]; exact hi _ _ _ (n2 j u hj) (n1.one _ (List.mem_of_getElem? hj)))
  unfold rowsX at h
  split at h
  · split at h
    · rename_i te hte
      split at h
      · rename_i el hk
        injection h with h; subst h
        obtain ⟨A, c, e1, e2, e3⟩ := hr
        exact sl te el A c hte hk e1 e3
      · cases h
    · cases h
  · split at h
    · rename_i te hte
      split at h
      · rename_i el hk
        injection h with h; subst h
        obtain ⟨A, e1, e3⟩ := hr
        exact sl te el (Addr0 A) _ hte hk e1 (a0 e3)
      · cases h
    · cases h
  · split at h
    · rename_i te hte
      split at h
      · rename_i el hk
        injection h with h; subst h
        obtain ⟨A, c, _, e1, e2, e3⟩ := hr
        exact sl te el (Addr0 A) c hte hk e1 (a0 e3)
      · cases h
    · cases h
  · rename_i s
    split at h
    · rename_i te hte
      split at h
      · rename_i hk
        injection h with h; subst h
        obtain ⟨ti, d, _, h2, _, _, h3, _⟩ := tt_get htt hte
        rw [hk] at h3; rw [mkK_str h3] at h2
        have hv : v = .string ⟨s.toArray⟩ := hr
        have hsz : (ByteArray.mk s.toArray).size = s.length := by simp [ByteArray.size]
        have he1 : s ≠ [] → e = 1 := fun hne => by
          cases s with
          | nil => exact absurd rfl hne
          | cons c s => exact (hl [.int .u8 c.toNat] (by simp)).symm
        have hlen : (s.map (fun c => Value.int .u8 c.toNat)).length = (s.map fun c => [D.int .u8 c.toNat]).length * e := by
          by_cases hne : s = []
          · subst hne; simp
          · rw [he1 hne]; simp
        refine ⟨_, h2, .inr rfl, by rw [hv]; simp [Builtin.lenOf, hsz], s.map (fun c => Value.int .u8 c.toNat), ⟨hlen, fun i r hi => ?_⟩, ?_⟩
        · rw [List.getElem?_map] at hi
          cases hc : s[i]? with
          | none => rw [hc] at hi; cases hi
          | some c =>
            rw [hc] at hi
            injection hi with hi; subst hi
            have he := he1 (fun hn => by rw [hn] at hc; cases hc)
            subst he
            refine ⟨rfl, fun j d hj => ?_⟩
            cases j with
            | zero => simp at hj; subst hj; exact ⟨.int .u8 c.toNat, by simp [hc], rfl⟩
            | succ j => simp at hj
        · rw [hv]
          have : ((ByteArray.mk s.toArray).extract 0 s.length) = ByteArray.mk s.toArray := by
            apply Go.WideShapes.bytes_inj
            rw [Lib.extract_data]
            simp
          simp [Builtin.firstCells, this]
      · cases h
    · cases h
  · cases h

def pApp (tt : TT) (t t2 : TypeId) (X Y : V) (H : List Ob) (K : Eff → Prop) : Prop :=
  match tt t, rowsX tt t2 Y with
  | some e, some qs =>
    match e.kind with
    | .slice el => match tt el with
      | some te => match te.zero with
        | some z => condP (z.cellB && Nat.beq z.cells.length te.size && Nat.ble te.bytes 65536) (match X with
          | .fsl rows => (RL rows te.size ∧ RL qs te.size ∧ (rows ++ qs).length ≤ 1073741824) ∧ K ⟨.gsl (rows ++ qs) H.length, [], [], [.tip te.size (rows ++ qs).length]⟩
          | .gsl rows q => match H[q]? with
            | some (.tip esz n) => condP (Nat.beq esz te.size) ((n = rows.length ∧ RL rows te.size ∧ RL qs te.size ∧ (rows ++ qs).length ≤ 1073741824) ∧ K ⟨.gsl (rows ++ qs) q, [], [(q, .tip esz (rows ++ qs).length)], []⟩)
            | _ => False
          | _ => False)
        | none => False
      | none => False
    | _ => False
  | _, _ => False
theorem RowsIn.of_repRows {G : Imm} {b o e : Nat} {rows : List (List D)} (h : repRows G b o e rows) : ∃ us, RowsIn G us e rows ∧ ∀ (j : Nat) u, us[j]? = some u → G b (o + j) = some u := by
  induction rows generalizing o with
  | nil => exact ⟨[], ⟨by simp, by simp⟩, by simp⟩
  | cons r qs ih =>
    obtain ⟨g1, g2, g3⟩ := h
    obtain ⟨ns, n1, n2⟩ := ih g3
    obtain ⟨us, u1, u2, u3, u4⟩ := repRow_cells g2
    have hr1 : RowsIn G us e [r] := ⟨by rw [u1]; simp [g1], fun i r' hi => by
      cases i with
      | zero => simp at hi; subst hi; exact ⟨g1, fun j d hj => by simpa using u2 j d hj⟩
      | succ i => simp at hi⟩
    refine ⟨us ++ ns, by simpa using hr1.append n1, fun j u hj => ?_⟩
    rw [List.getElem?_append] at hj
    split at hj
    · exact u3 j u hj
    · rename_i hge
      have := n2 _ u hj
      rwa [show o + e + (j - us.length) = o + j by omega] at this
/-- The cells of a slice that is known. -/
theorem sl_cells {G : Imm} {w : World} (hi : Inv G w) {A : Option (Nat × Nat)} {rows : List (List D)} {e c : Nat} (hl : RL rows e) (h : rows ≠ [] → ∃ b o e, A = some (b, o) ∧ repRows G b o e rows) :
    ∃ olds, RowsIn G olds e rows ∧ (Builtin.firstCells e rows.length (.slice (Addr0 A) rows.length c)).run P w = .ok olds.toArray w := by
  by_cases hn : rows = []
  · subst hn
    refine ⟨[], ⟨by simp, by simp⟩, ?_⟩
    cases A with
    | none => rfl
    | some p => simp [Builtin.firstCells, Addr0, loadCells, loadCellsFrom]
  · obtain ⟨b, p, e', rfl, hrr⟩ := h hn
    have he : e' = e := by
      obtain ⟨r, hr⟩ := List.exists_mem_of_ne_nil rows hn
      rw [← repRows_len hrr r hr, hl r hr]
    subst he
    obtain ⟨us, u1, u2⟩ := RowsIn.of_repRows hrr
    exact ⟨us, u1, run_firstCells_some (P := P) w e' rows.length ⟨b, p, none⟩ rows.length c us (by rw [u1.1]) (fun j u hj => by rw [add_lit]; exact hi _ _ _ (u2 j u hj) (u1.one _ (List.mem_of_getElem? hj)))⟩
/-- What a slice becomes that outgrows its room: a new block. -/
theorem Sit.grow {G : Imm} {w : World} {φ : Loc} {Hx : Hp} (hs : Sit G w φ Hx) (q : Nat) (e n c : Nat) (us zs : List Value) (rows : List (List D)) (T : TypeId) (hrows : RowsIn G us e rows) (hn : n = rows.length) (hc : n ≤ c) (hz : zs.length = (c - n) * e)
    (hq : ∀ m, n ≤ m → φ q m = none) (ho : ∀ ob b, Hx q = some ob → Owns φ q ob b → True) :
    Sit (addBlk G w.heap.size us) (w.alloc (.cells (us ++ zs).toArray T)) (setLoc φ q n (some (w.heap.size, 0), c)) (fun i => if i = q then some (.tip e n) else Hx i) ∧
    Goes G w φ Hx (addBlk G w.heap.size us) (w.alloc (.cells (us ++ zs).toArray T)) (setLoc φ q n (some (w.heap.size, 0), c)) (fun i => if i = q then some (.tip e n) else Hx i) ∧
    (V.gsl rows q).rep (addBlk G w.heap.size us) (setLoc φ q n (some (w.heap.size, 0), c)) (.slice (some ⟨w.heap.size, 0, none⟩) n c) := by
  have hfresh := hs.inv.fresh (Nat.le_refl _)
  have hst := hs.step (G' := addBlk G w.heap.size us) (w' := w.alloc (.cells (us ++ zs).toArray T)) (φ' := setLoc φ q n (some (w.heap.size, 0), c)) (H' := fun i => if i = q then some (.tip e n) else Hx i) (fun i => i = q) (addBlk_le hfresh us) (setLoc_le (hq n (Nat.le_refl _))) (fun i hi m => setLoc_ne hi) rfl rfl rfl (by simp)
    (fun b hb _ => ⟨heap_old w _ hb, fun o => by unfold addBlk; rw [if_neg (by omega)]⟩) (fun i hi => if_neg hi) (hs.inv.addBlk us zs T hrows.one)
    (fun i ob hi h1 => by
      subst hi; simp at h1; subst h1
      refine ⟨some (w.heap.size, 0), c, setLoc_same _ _ _ _, hc, fun m hm => ?_, fun hlt => ⟨w.heap.size, 0, _, T, (0, 0), rfl, heap_new w _, ?_, fun j hj => ?_, Nat.zero_le _⟩⟩
      · unfold setLoc; rw [if_neg (by omega)]; exact hq m (by omega)
      · have h1 := hrows.1
        have : c * e = n * e + (c - n) * e := by rw [← Nat.add_mul]; congr 1; omega
        rw [hn] at this hz
        simp only [List.size_toArray, List.length_append]
        rw [hn] at *
        omega
      · unfold addBlk
        rw [if_pos rfl, List.getElem?_eq_none]
        rw [hrows.1, ← hn]; omega)
    (fun i j ob1 ob2 b hi hj hij => absurd (hi.trans hj.symm) hij)
    (fun i ob b hi h1 h2 => by
      subst hi; simp at h1; subst h1
      simp only [Owns, own, setLoc_same] at h2
      split at h2
      · injection h2 with h2; exact .inr (Nat.le_of_eq h2)
      · cases h2)
    (fun i hi h1 => by subst hi; simp at h1)
  refine ⟨hst.1, hst.2, some (w.heap.size, 0), c, by rw [← hn]; exact setLoc_same _ _ _ _, by rw [hn]; rfl, by omega, fun _ => ⟨w.heap.size, 0, e, rfl, hrows.rows (addBlk_le hfresh us) fun j u hj => ?_⟩⟩
  unfold addBlk
  rw [if_pos rfl, Nat.zero_add]; exact hj
theorem upd_tip (Hx : Hp) (base : Nat) (x : V) (ob : Ob) : upd Hx base ⟨x, [], [], [ob]⟩ = fun i => if i = base then some ob else Hx i := upd_new Hx base x [] ob
end
end Go.Proofs.YtblnfodnkacbbaaGreatDoor.Q

namespace Go.Proofs.YtblnfodnkacbbaaGreatDoor.Q
open Go.MapKept
variable [Amb]
section
variable {P : Program} {tt : TT} {o : Oper} {ρ : Env} {H : List Ob} {K : Eff → Prop}
/-- At which place of a map's keys a key stands. (By the list's own recursor.) -/
def findP (kd : TK) (x : V) (ks : List V) : Nat → (Option Nat → Prop) → Prop :=
  @List.rec V (fun _ => Nat → (Option Nat → Prop) → Prop) (fun _ K => K none)
    (fun y _ ih i K => match kd, x, y with
      | .int k, .d (.int k1 n), .d (.int k2 m) => condP (kindEq k1 k && kindEq k2 k) (brP (n == m) (K (some i)) (ih (i + 1) K))
      | .str, .d (.str s), .d (.str t) => brP (s == t) (K (some i)) (ih (i + 1) K)
      | _, _, _ => False) ks
theorem str_eq (s t : List UInt8) : ((ByteArray.mk s.toArray) == (ByteArray.mk t.toArray)) = (s == t) := by
  rw [Bool.eq_iff_iff, bytes_beq]
  simp
theorem findP_out {kd : TK} {d : TypeDesc} (hd : mkK d = kd) {x : V} : ∀ {ks : List V} {i : Nat} {R : Option Nat → Prop}, findP kd x ks i R → ∃ r, R r ∧
    ∀ (G : Imm) (φ : Loc) (k : Value) (es : List MapEntry), x.rep G φ k → repVs G φ ks (es.map (·.key)) → (ks ≠ [] → IsKey d k) ∧
      (r = none → Instr.findNow d k es i = some none) ∧ ∀ j, r = some j → i ≤ j ∧ ∃ e, es[j - i]? = some e ∧ Instr.findNow d k es i = some (some (j, e.val)) ∧ e.key = k
  | [], i, R, h => ⟨none, h, fun G φ k es hx hr => by
    have : es = [] := by
      have : es.map (·.key) = [] := hr
      simpa using this
    subst this
    exact ⟨fun e => absurd rfl e, fun _ => rfl, fun j hj => by cases hj⟩⟩
  | y :: ys, i, R, h => by
    have step : ∀ (b : Bool), (∀ (G : Imm) (φ : Loc) (k u : Value), x.rep G φ k → y.rep G φ u → IsKey d k ∧ Instr.sameNow d k u = some b ∧ (b = true → u = k)) → brP b (R (some i)) (findP kd x ys (i + 1) R) → ∃ r, R r ∧
        ∀ (G : Imm) (φ : Loc) (k : Value) (es : List MapEntry), x.rep G φ k → repVs G φ (y :: ys) (es.map (·.key)) → (y :: ys ≠ [] → IsKey d k) ∧
          (r = none → Instr.findNow d k es i = some none) ∧ ∀ j, r = some j → i ≤ j ∧ ∃ e, es[j - i]? = some e ∧ Instr.findNow d k es i = some (some (j, e.val)) ∧ e.key = k := by
      intro b hb hR
      rcases brP_out hR with ⟨rfl, h⟩ | ⟨rfl, h⟩
      · refine ⟨some i, h, fun G φ k es hx hr => ?_⟩
        obtain ⟨u, us, e, h1, h2⟩ := hr
        cases es with
        | nil => cases e
        | cons e0 es =>
          injection e with e1 e2
          have e1 : e0.key = u := e1
          obtain ⟨b1, b2, b3⟩ := hb G φ k u hx h1
          refine ⟨fun _ => b1, (fun e => by cases e), fun j hj => ?_⟩
          injection hj with hj; subst hj
          refine ⟨Nat.le_refl _, e0, by simp, ?_, by rw [e1]; exact b3 rfl⟩
          simp [Instr.findNow, e1, b2]
      · obtain ⟨r, h1, h2⟩ := findP_out hd h
        refine ⟨r, h1, fun G φ k es hx hr => ?_⟩
        obtain ⟨u, us, e, g1, g2⟩ := hr
        cases es with
        | nil => cases e
        | cons e0 es =>
          injection e with e1 e2
          have e1 : e0.key = u := e1
          obtain ⟨b1, b2, b3⟩ := hb G φ k u hx g1
          rw [← e2] at g2
          obtain ⟨_, q2, q3⟩ := h2 G φ k es hx g2
          refine ⟨fun _ => b1, fun hn => by simp [Instr.findNow, e1, b2, q2 hn], fun j hj => ?_⟩
          obtain ⟨p1, e', p2, p3, p4⟩ := q3 j hj
          refine ⟨by omega, e', ?_, by simp [Instr.findNow, e1, b2, p3], p4⟩
          rw [show j - i = (j - (i + 1)) + 1 by omega]; simpa using p2
    change (match kd, x, y with
      | .int k, .d (.int k1 n), .d (.int k2 m) => condP (kindEq k1 k && kindEq k2 k) (brP (n == m) (R (some i)) (findP kd x ys (i + 1) R))
      | .str, .d (.str s), .d (.str t) => brP (s == t) (R (some i)) (findP kd x ys (i + 1) R)
      | _, _, _ => False) at h
    split at h
    · rename_i k k1 n k2 m
      obtain ⟨hc, h⟩ := condP_out h
      simp only [Bool.and_eq_true] at hc
      have e1 := kindEq_spec hc.1
      have e2 := kindEq_spec hc.2
      subst e1; subst e2
      have := mkK_int hd
      subst this
      refine step _ (fun G φ k u hx hy => ?_) h
      have hx : k = .int k2 n := hx
      have hy : u = .int k2 m := hy
      subst hx; subst hy
      exact ⟨by simp [IsKey], by simp [Instr.sameNow], fun e => by rw [eq_of_beq e]⟩
    · rename_i s t
      have := mkK_str hd
      subst this
      refine step _ (fun G φ k u hx hy => ?_) h
      have hx : k = .string ⟨s.toArray⟩ := hx
      have hy : u = .string ⟨t.toArray⟩ := hy
      subst hx; subst hy
      exact ⟨by simp [IsKey], by simp only [Instr.sameNow, str_eq], fun e => by rw [eq_of_beq e]⟩
    · exact h.elim
def resK (ok : Bool) (id : Nat) (x : V) (b : Bool) (K : Eff → Prop) : Prop := match ok with
  | true => K ⟨.tup [x, .d (.bool b)], [id], [], []⟩
  | false => K ⟨x, [id], [], []⟩
def atP (vs : List V) (i : Nat) (K : V → Prop) : Prop := match vs[i]? with
  | some x => K x
  | none => False
def pLook (tt : TT) (t : TypeId) (X Y : V) (ok : Bool) (H : List Ob) (K : Eff → Prop) : Prop := match tt t, X with
  | some e, .map id => match e.kind, H[id]? with
    | .map kt et, some (.mp ks vs) => match tt kt, tt et with
      | some ke, some ee => condP (Bool.not ks.isEmpty) (findP ke.kind Y ks 0 fun r => match r with
        | some j => atP vs j fun x => resK ok id x true K
        | none => match ee.zero with
          | some z => resK ok id z false K
          | none => False)
      | _, _ => False
    | _, _ => False
  | _, _ => False
def keyB (kd : TK) (Y : V) : Bool := match kd, Y with
  | .int k, .d (.int k1 _) => kindEq k1 k
  | .str, .d (.str _) => true
  | _, _ => false
theorem keyB_spec {kd : TK} {Y : V} (h : keyB kd Y = true) {d : TypeDesc} (hd : mkK d = kd) {G : Imm} {φ : Loc} {k : Value} (hY : Y.rep G φ k) : IsKey d k := by
  unfold keyB at h
  split at h
  · have e := kindEq_spec h
    subst e
    have hd := mkK_int hd
    subst hd
    have hY : k = .int _ _ := hY
    subst hY; simp [IsKey]
  · have hd := mkK_str hd
    subst hd
    have hY : k = .string _ := hY
    subst hY; simp [IsKey]
  · cases h
def pMapUp (tt : TT) (t : TypeId) (X Y Z : V) (H : List Ob) (K : Eff → Prop) : Prop := match tt t, X with
  | some e, .map id => match e.kind, H[id]? with
    | .map kt et, some (.mp ks vs) => match tt kt with
      | some ke => condP (keyB ke.kind Y) (findP ke.kind Y ks 0 fun r => match r with
        | some j => K ⟨.undef, [], [(id, .mp ks (vs.set j Z))], []⟩
        | none => K ⟨.undef, [], [(id, .mp (ks ++ [Y]) (vs ++ [Z]))], []⟩)
      | none => False
    | _, _ => False
  | _, _ => False
def pMkMap (tt : TT) (t : TypeId) (h : Option V) (H : List Ob) (K : Eff → Prop) : Prop := match tt t with
  | some e => match e.kind, h with
    | .map _ _, some (.d (.int _ _)) => K ⟨.map H.length, [], [], [.mp [] []]⟩
    | .map _ _, none => K ⟨.map H.length, [], [], [.mp [] []]⟩
    | _, _ => False
  | none => False
theorem run_look {w : World} {t kt et : TypeId} {d : TypeDesc} {r clk : Nat} {es : Array MapEntry} {k : Value} (hm : P.underlying t = some (.map kt et)) (hd : P.underlying kt = some d) (hb : w.heap[r]? = some (.map es clk)) (hk : IsKey d k) {a : Option (Nat × Value)}
    (hf : Instr.findNow d k es.toList 0 = some a) (ok : Bool) (z : Value) (hz : a = none → (zeroValue et).run P w = .ok z w) :
    (Instr.lookup t (.map (some r)) k ok).run P w = .ok (match a with | some (_, v) => if ok then .tuple #[v, .bool true] else v | none => if ok then .tuple #[z, .bool false] else z) w := by
  cases a with
  | none => cases ok <;> simp [Instr.lookup, run_underlying hm, MapKept.run_getObj_map hb, run_checkKey hd hk, run_findKey hd hf, hz rfl, Result.andThen]
  | some p => cases ok <;> simp [Instr.lookup, run_underlying hm, MapKept.run_getObj_map hb, run_checkKey hd hk, run_findKey hd hf, Result.andThen]
theorem pMkMap_sem (htt : TTok P tt) {t : TypeId} {r : Option Operand} {X : Option V} (ho : o.op = .makeMap t r) (hx : match r, X with | some x, some X => ev ρ x = some X | none, none => True | _, _ => False) (h : pMkMap tt t X H K) : ∃ e, K e ∧ Tri P o ρ H e := by
  unfold pMkMap at h
  split at h
  · rename_i e he
    obtain ⟨i, d, h1, h2, _, _, h3, _⟩ := tt_get htt he
    have fin : (∃ kt et, mkK d = .map kt et) → K ⟨.map H.length, [], [], [.mp [] []]⟩ → (∀ (a : Act) (G : Imm) (φ : Loc), OpRep o ρ a G φ → ∀ x, r = some x → ∃ k n, a.eval x = .int k n) → ∃ e, K e ∧ Tri P o ρ H e := by
      rintro ⟨kt, et, hk⟩ h hint
      rw [mkK_map hk] at h2
      refine ⟨_, h, ⟨by simp, by simp, fun a G w φ Hx K Q hs hr ha hf hK => ?_⟩⟩
      have hn : Hx H.length = none := hf _ (Nat.le_refl _) (by simp)
      have run : (execOp a.eval o).run P w = .ok (.value (.map (some w.heap.size))) (w.alloc (.map #[] 0)) := by
        unfold execOp
        rw [ho]
        cases r with
        | none => simp [Instr.makeMap]
        | some x =>
          obtain ⟨k, n, e⟩ := hint a G φ hr x rfl
          simp [Instr.makeMap, run_underlying h2, e, asInt, asIntOf]
      have hst := hs.add H.length 0 0 (.mp [] []) (.map #[] 0) hn
        ⟨w.heap.size, 0, #[], 0, setLoc_same _ _ _ _, heap_new w _, rfl, rfl, hs.inv.fresh (Nat.le_refl _)⟩
        (fun b hb => by simp [Owns, own, setLoc_same] at hb; exact hb.symm)
      rw [upd_new] at hK
      unfold Oper.wp
      rw [run, Oper.upon_value]
      exact hK _ _ _ _ hst.1 hst.2 ⟨w.heap.size, 0, setLoc_same _ _ _ _, rfl⟩
    split at h
    · rename_i kt et k n hk
      refine fin ⟨kt, et, by rw [h3, hk]⟩ h fun a G φ hr x hrx => ?_
      subst hrx
      exact ⟨k, n, hr x _ (by rw [ho]; simp [Op.operands]) hx⟩
    · rename_i kt et hk
      refine fin ⟨kt, et, by rw [h3, hk]⟩ h fun a G φ hr x hrx => ?_
      subst hrx
      exact hx.elim
    · exact h.elim
  · exact h.elim
theorem pLook_sem (htt : TTok P tt) {t : TypeId} {x y : Operand} {X Y : V} {ok : Bool} (ho : o.op = .lookup t x y ok) (hx : ev ρ x = some X) (hy : ev ρ y = some Y) (h : pLook tt t X Y ok H K) : ∃ e, K e ∧ Tri P o ρ H e := by
  have hox : x ∈ o.op.operands := by rw [ho]; simp [Op.operands]
  have hoy : y ∈ o.op.operands := by rw [ho]; simp [Op.operands]
  unfold pLook at h
  split at h
  · rename_i e id he
    obtain ⟨i, d, h1, h2, _, _, h3, _⟩ := tt_get htt he
    split at h
    · rename_i kt et ks vs hk hH
      rw [hk] at h3
      rw [mkK_map h3] at h2
      split at h
      · rename_i ke ee hke hee
        obtain ⟨hne, h⟩ := condP_out h
        have hne : ks ≠ [] := by cases ks <;> simp_all
        obtain ⟨ik, dk, k1, k2, _, _, k3, _⟩ := tt_get htt hke
        obtain ⟨r, h, hr⟩ := findP_out k3 h
        have hid := lt_of_get hH
        have fin : ∀ (v : V) (b : Bool), resK ok id v b K → (∀ (a : Act) (G : Imm) (w : World) (φ : Loc) (bk : Nat) (es : Array MapEntry) (clk : Nat), a.eval x = .map (some bk) → w.heap[bk]? = some (.map es clk) → Y.rep G φ (a.eval y) → repVs G φ ks (es.toList.map (·.key)) → repVs G φ vs (es.toList.map (·.val)) →
            ∃ u, (Instr.lookup t (a.eval x) (a.eval y) ok).run P w = .ok (if ok then Value.tuple #[u, .bool b] else u) w ∧ v.rep G φ u) → ∃ e, K e ∧ Tri P o ρ H e := by
          intro v b hres hrun
          have go : ∀ (X' : V), (∀ (G : Imm) (φ : Loc) (u : Value), v.rep G φ u → X'.rep G φ (if ok then Value.tuple #[u, .bool b] else u)) → K ⟨X', [id], [], []⟩ → ∃ e, K e ∧ Tri P o ρ H e := by
            intro X' hX' hK
            refine ⟨_, hK, tri_val (by simpa using hid) fun a G w φ Hx hs hr ha => ?_⟩
            obtain ⟨bk, c, g1, g2⟩ := hr x _ hox hx
            obtain ⟨b', c', es, clk, q1, q2, q3, q4, q5⟩ := hs.holds id _ ((ha id (by simp)).trans hH)
            rw [g1] at q1; injection q1 with q1; injection q1 with q1 q1'; injection q1 with q1; injection q1 with q1; subst q1
            obtain ⟨u, u1, u2⟩ := hrun a G w φ bk es clk g2 q2 (hr y _ hoy hy) q3 q4
            refine ⟨_, ?_, hX' G φ u u2⟩
            unfold execOp
            rw [ho]
            simp only [Sem.run_bind, u1, Result.andThen_ok, Sem.run_pure]
          unfold resK at hres
          split at hres
          · exact go (.tup [v, .d (.bool b)]) (fun G φ u hu => ⟨[u, .bool b], rfl, ⟨u, _, rfl, hu, ⟨_, _, rfl, rfl, rfl⟩⟩⟩) hres
          · exact go v (fun G φ u hu => hu) hres
        cases r with
        | none =>
          dsimp only at h
          split at h
          · rename_i z hz
            refine fin _ _ h fun a G w φ bk es clk e1 e2 e3 e4 e5 => ?_
            obtain ⟨r1, r2, _⟩ := hr G φ _ es.toList e3 e4
            obtain ⟨v, v1, v2, _⟩ := run_zero (P := P) w htt hee hz
            refine ⟨v, ?_, v2 G φ⟩
            rw [e1, run_look h2 k2 e2 (r1 hne) (r2 rfl) ok v (fun _ => v1)]
          · exact h.elim
        | some j =>
          dsimp only at h
          unfold atP at h
          split at h
          · rename_i v hv
            refine fin _ _ h fun a G w φ bk es clk e1 e2 e3 e4 e5 => ?_
            obtain ⟨r1, _, r2⟩ := hr G φ _ es.toList e3 e4
            obtain ⟨_, e', f1, f2, f3⟩ := r2 j rfl
            obtain ⟨u, u1, u2⟩ := repVs_get e5 j v hv
            have hu : u = e'.val := by
              rw [List.getElem?_map, Nat.sub_zero] at *
              rw [f1] at u1
              simpa using u1.symm
            subst hu
            refine ⟨e'.val, ?_, u2⟩
            rw [e1, run_look h2 k2 e2 (r1 hne) f2 ok .nilFunc (fun e => by cases e)]
          · exact h.elim
      · exact h.elim
    · exact h.elim
  · exact h.elim
theorem Sit.mapWrite {G : Imm} {w : World} {φ : Loc} {Hx : Hp} (hs : Sit G w φ Hx) (id b : Nat) (ob ob' : Ob) (es : Array MapEntry) (clk : Nat) (o' : Obj) (hb0 : w.heap[b]? = some (.map es clk)) (hG : ∀ o, G b o = none) (hH : Hx id = some ob) (hb : Owns φ id ob b)
    (hh : Holds G (w.putObj b o') φ id ob') (ho : ∀ b', Owns φ id ob' b' → b' = b) :
    Sit G (w.putObj b o') φ (fun i => if i = id then some ob' else Hx i) ∧ Goes G w φ Hx G (w.putObj b o') φ (fun i => if i = id then some ob' else Hx i) := by
  refine hs.step (fun i => i = id) (Imm.le.refl _) (Loc.le.refl _) (fun _ _ _ => rfl) rfl rfl rfl (by rw [World.putObj_size]; exact Nat.le_refl _) ?_ (fun i hi => if_neg hi) ?_ ?_ ?_ ?_ ?_
  · intro k hk hn
    refine ⟨World.putObj_heap_other ?_, fun _ => rfl⟩
    rintro rfl
    exact hn id ob rfl hH hb
  · refine InvT.of hs.inv (Imm.le.refl _) (fun b' cs T fr hb' _ _ => ?_) fun b' o v hg => ?_
    · refine World.putObj_heap_other fun e => ?_
      subst e; rw [hb0] at hb'; cases hb'
    have hne : b' ≠ b := fun e => by rw [e, hG] at hg; cases hg
    refine (hs.inv.1 b' o v hg).go (Imm.le.refl _) (fun h1 => ?_) fun _ => World.putObj_heap_other hne
    simp only [World.cell?] at h1 ⊢
    rw [World.putObj_heap_other hne]
    exact h1
  · intro i ob1 hi h1; subst hi; simp at h1; subst h1; exact hh
  · intro i j ob1 ob2 b hi hj hij; exact absurd (hi.trans hj.symm) hij
  · intro i ob1 b1 hi h1 h2
    subst hi; simp at h1; subst h1
    have e := ho _ h2; subst e
    exact .inl ⟨i, ob, rfl, hH, hb⟩
  · intro i hi h1; subst hi; simp at h1
theorem pMapUp_sem (htt : TTok P tt) {t : TypeId} {x y z : Operand} {X Y Z : V} (ho : o.op = .mapUpdate t x y z ∨ o.op = .insert t x y z) (hx : ev ρ x = some X) (hy : ev ρ y = some Y) (hz : ev ρ z = some Z) (h : pMapUp tt t X Y Z H K) : ∃ e, K e ∧ Tri P o ρ H e := by
  have hox : x ∈ o.op.operands := by rcases ho with ho | ho <;> (rw [ho]; simp [Op.operands])
  have hoy : y ∈ o.op.operands := by rcases ho with ho | ho <;> (rw [ho]; simp [Op.operands])
  have hoz : z ∈ o.op.operands := by rcases ho with ho | ho <;> (rw [ho]; simp [Op.operands])
  unfold pMapUp at h
  split at h
  · rename_i e id he
    obtain ⟨i, d, h1, h2, _, _, h3, _⟩ := tt_get htt he
    split at h
    · rename_i kt et ks vs hk hH
      rw [hk] at h3
      rw [mkK_map h3] at h2
      split at h
      · rename_i ke hke
        obtain ⟨hkey, h⟩ := condP_out h
        obtain ⟨ik, dk, k1, k2, _, _, k3, _⟩ := tt_get htt hke
        obtain ⟨r, h, hr⟩ := findP_out k3 h
        have hid := lt_of_get hH
        have hik : ∀ (G : Imm) (φ : Loc) (k : Value), Y.rep G φ k → IsKey dk k := by
          intro G φ k hY
          exact keyB_spec hkey k3 hY
        have fin : ∀ (ob' : Ob), (∀ (a : Act) (G : Imm) (w : World) (φ : Loc) (es : Array MapEntry) (clk b : Nat), w.heap[b]? = some (.map es clk) → Y.rep G φ (a.eval y) → Z.rep G φ (a.eval z) → repVs G φ ks (es.toList.map (·.key)) → repVs G φ vs (es.toList.map (·.val)) →
            ∃ es' clk', (Instr.mapUpdate t (.map (some b)) (a.eval y) (a.eval z)).run P w = .ok () (w.putObj b (.map es' clk')) ∧ ∃ ks' vs', ob' = .mp ks' vs' ∧ repVs G φ ks' (es'.toList.map (·.key)) ∧ repVs G φ vs' (es'.toList.map (·.val))) →
            K ⟨.undef, [], [(id, ob')], []⟩ → ∃ e, K e ∧ Tri P o ρ H e := by
          intro ob' hrun hK0
          refine ⟨_, hK0, ⟨by simp, by simpa using hid, fun a G w φ Hx K Q hs hr' ha hf hK => ?_⟩⟩
          obtain ⟨bk, c, g1, g2⟩ := hr' x _ hox hx
          have hHx : Hx id = some (.mp ks vs) := (ha id (.inr ⟨_, List.mem_singleton.2 rfl, rfl⟩)).trans hH
          obtain ⟨b', c', es, clk, q1, q2, q3, q4, q5⟩ := hs.holds id _ hHx
          rw [g1] at q1; injection q1 with q1; injection q1 with q1 q1'; injection q1 with q1; injection q1 with q1; subst q1
          obtain ⟨es', clk', u1, ks', vs', rfl, u2, u3⟩ := hrun a G w φ es clk bk q2 (hr' y _ hoy hy) (hr' z _ hoz hz) q3 q4
          have hlt : bk < w.heap.size := (Array.getElem?_eq_some_iff.1 q2).1
          have hw := hs.mapWrite id bk _ (.mp ks' vs') es clk (.map es' clk') q2 q5 hHx (by simp [Owns, own, g1]) ⟨bk, c, es', clk', g1, World.putObj_heap_same hlt, u2, u3, q5⟩ (fun b' hb' => by simp [Owns, own, g1] at hb'; exact hb'.symm)
          rw [upd_one] at hK
          unfold Oper.wp
          have run : (execOp a.eval o).run P w = .ok .skip (w.putObj bk (.map es' clk')) := by
            unfold execOp
            rcases ho with ho | ho <;> (rw [ho]; simp only [Sem.run_bind, g2, u1, Result.andThen_ok, Sem.run_pure])
          rw [run, Oper.upon_skip]
          exact hK undef _ _ _ hw.1 hw.2 trivial
        cases r with
        | none =>
          refine fin _ (fun a G w φ es clk b e1 e2 e3 e4 e5 => ?_) h
          obtain ⟨_, r2, _⟩ := hr G φ _ es.toList e2 e4
          refine ⟨es.push { key := a.eval y, val := a.eval z, born := clk }, clk + 1, ?_, _, _, rfl, ?_, ?_⟩
          · simp [Instr.mapUpdate, run_underlying h2, MapKept.run_getObj_map e1, run_checkKey k2 (hik G φ _ e2), run_findKey k2 (r2 rfl), MapKept.run_setObj_map _ e1, Result.andThen, World.putObj]
          · rw [Array.toList_push, List.map_append]; exact repVs_append e4 ⟨_, _, rfl, e2, rfl⟩
          · rw [Array.toList_push, List.map_append]; exact repVs_append e5 ⟨_, _, rfl, e3, rfl⟩
        | some j =>
          refine fin _ (fun a G w φ es clk b e1 e2 e3 e4 e5 => ?_) h
          obtain ⟨_, _, r2⟩ := hr G φ _ es.toList e2 e4
          obtain ⟨_, e', f1, f2, f3⟩ := r2 j rfl
          have f1' : es[j]? = some e' := by simpa using f1
          have hmod : ∀ (f : MapEntry → MapEntry), (es.modify j f).toList = es.toList.set j (f e') := fun f => by
            rw [Array.toList_modify]
            refine List.ext_getElem? fun m => ?_
            rw [List.getElem?_modify, List.getElem?_set]
            have f1 : es.toList[j]? = some e' := by simpa using f1
            by_cases hm : j = m
            · subst hm
              rw [if_pos rfl, if_pos (lt_of_get f1), f1]; show some (if j = j then f e' else e') = _; rw [if_pos rfl]
            · rw [if_neg hm]; cases es.toList[m]? with
              | none => rfl
              | some q => show some (if j = m then f q else q) = _; rw [if_neg hm]
          refine ⟨es.modify j fun e => { e with key := a.eval y, val := a.eval z }, clk, ?_, _, _, rfl, ?_, ?_⟩
          · simp [Instr.mapUpdate, run_underlying h2, MapKept.run_getObj_map e1, run_checkKey k2 (hik G φ _ e2), run_findKey k2 f2, f1', f3, run_keyThatStays (hik G φ _ e2), MapKept.run_setObj_map _ e1, Result.andThen, World.putObj]
          · rw [hmod, List.map_set]
            have : (es.toList.map (·.key)).set j (a.eval y) = es.toList.map (·.key) := by
              refine List.ext_getElem? fun m => ?_
              rw [List.getElem?_set]
              split
              · rename_i hm; subst hm
                have f1 : es.toList[j]? = some e' := by simpa using f1
                rw [if_pos (by simpa using lt_of_get f1), List.getElem?_map, f1]; exact congrArg some f3.symm
              · rfl
            rw [this]; exact e4
          · rw [hmod, List.map_set]; exact repVs_set e5 j e3
      · exact h.elim
    · exact h.elim
  · exact h.elim
/-- All keys are texts; all values are numbers. -/
def strsOf : List V → Option (List (List UInt8))
  | [] => some []
  | .d (.str s) :: r => match strsOf r with | some l => some (s :: l) | none => none
  | _ => none
def numsOf (k : IntKind) : List V → Option (List Int)
  | [] => some []
  | .d (.int j n) :: r => bif kindEq j k then (match numsOf k r with | some l => some (n :: l) | none => none) else none
  | _ => none
/-- A number by a text. -/
def selI (s : List UInt8) : List (List UInt8) → List Int → Int → Int
  | c :: cs, n :: ns, z => if s == c then n else selI s cs ns z
  | _, _, z => z
def pLookI (tt : TT) (t : TypeId) (X Y : V) (ok : Bool) (H : List Ob) (K : Eff → Prop) : Prop := match tt t, X, Y, ok with
  | some e, .map id, .d (.str s), false => match e.kind, H[id]? with
    | .map kt et, some (.mp ks vs) => match tt kt, tt et with
      | some ke, some ee => match ke.kind, ee.zero, strsOf ks with
        | .str, some (.d (.int k z)), some ss => match numsOf k vs with
          | some ns => K ⟨.d (.int k (selI s ss ns z)), [id], [], []⟩
          | none => False
        | _, _, _ => False
      | _, _ => False
    | _, _ => False
  | _, _, _, _ => False
theorem strsOf_rep {G : Imm} {φ : Loc} : ∀ {ks : List V} {ss : List (List UInt8)} {us : List Value}, strsOf ks = some ss → repVs G φ ks us → us = ss.map fun s => Value.string ⟨s.toArray⟩
  | [], ss, us, h, hr => by injection h with h; subst h; exact hr
  | x :: r, ss, us, h, hr => by
    obtain ⟨u, us', rfl, h1, h2⟩ := hr
    unfold strsOf at h
    split at h
    · rename_i heq; cases heq
    · rename_i s r' heq
      injection heq with e1 e2
      subst e1; subst e2
      split at h
      · rename_i l hl
        injection h with h; subst h
        rw [strsOf_rep hl h2, show u = Value.string ⟨s.toArray⟩ from h1]; rfl
      · cases h
    · cases h
theorem numsOf_rep {k : IntKind} {G : Imm} {φ : Loc} : ∀ {vs : List V} {ns : List Int} {us : List Value}, numsOf k vs = some ns → repVs G φ vs us → us = ns.map (Value.int k)
  | [], ns, us, h, hr => by injection h with h; subst h; exact hr
  | x :: r, ns, us, h, hr => by
    obtain ⟨u, us', rfl, h1, h2⟩ := hr
    unfold numsOf at h
    split at h
    · rename_i heq; cases heq
    · rename_i j n r' heq
      injection heq with e1 e2
      subst e1; subst e2
      cases hk : kindEq j k with
      | false => rw [hk] at h; cases h
      | true =>
        rw [hk] at h
        dsimp only [cond] at h
        split at h
        · rename_i l hl
          injection h with h; subst h
          rw [numsOf_rep hl h2, show u = Value.int j n from h1, kindEq_spec hk]; rfl
        · cases h
    · cases h
theorem findNow_sel {k : IntKind} (s : List UInt8) (z : Int) : ∀ (es : List MapEntry) (ss : List (List UInt8)) (ns : List Int) (i : Nat), es.map (·.key) = ss.map (fun s => Value.string ⟨s.toArray⟩) → es.map (·.val) = ns.map (Value.int k) →
    ∃ r, Instr.findNow .string (.string ⟨s.toArray⟩) es i = some r ∧ (match r with | some (_, v) => v | none => Value.int k z) = Value.int k (selI s ss ns z)
  | [], ss, ns, i, h1, h2 => by
    cases ss with
    | nil => exact ⟨none, rfl, by unfold selI; rfl⟩
    | cons => cases h1
  | e :: es, ss, ns, i, h1, h2 => by
    cases ss with
    | nil => cases h1
    | cons c cs =>
      cases ns with
      | nil => cases h2
      | cons n ns =>
        injection h1 with a1 a2
        injection h2 with b1 b2
        have a1 : e.key = Value.string ⟨c.toArray⟩ := a1
        have b1 : e.val = Value.int k n := b1
        unfold selI
        by_cases hs : (s == c) = true
        · rw [if_pos hs]
          refine ⟨some (i, e.val), ?_, b1⟩
          simp only [Instr.findNow, a1, Instr.sameNow, str_eq, hs]
        · rw [if_neg hs]
          obtain ⟨r, r1, r2⟩ := findNow_sel s z es cs ns (i + 1) a2 b2
          refine ⟨r, ?_, r2⟩
          have hs : (s == c) = false := by simpa using hs
          simp only [Instr.findNow, a1, Instr.sameNow, str_eq, hs]
          exact r1
theorem pLookI_sem (htt : TTok P tt) {t : TypeId} {x y : Operand} {X Y : V} {ok : Bool} (ho : o.op = .lookup t x y ok) (hx : ev ρ x = some X) (hy : ev ρ y = some Y) (h : pLookI tt t X Y ok H K) : ∃ e, K e ∧ Tri P o ρ H e := by
  have hox : x ∈ o.op.operands := by rw [ho]; simp [Op.operands]
  have hoy : y ∈ o.op.operands := by rw [ho]; simp [Op.operands]
  unfold pLookI at h
  split at h
  · rename_i e id s he
    obtain ⟨i, d, h1, h2, _, _, h3, _⟩ := tt_get htt he
    split at h
    · rename_i kt et ks vs hk hH
      rw [hk] at h3
      rw [mkK_map h3] at h2
      split at h
      · rename_i ke ee hke hee
        obtain ⟨ik, dk, k1, k2, _, _, k3, _⟩ := tt_get htt hke
        split at h
        · rename_i k z ss hkk hz hss
          rw [hkk] at k3
          rw [mkK_str k3] at k2
          split at h
          · rename_i ns hns
            have hid := lt_of_get hH
            refine ⟨_, h, tri_val (by simpa using hid) fun a G w φ Hx hs hr ha => ?_⟩
            obtain ⟨bk, c, g1, g2⟩ := hr x _ hox hx
            obtain ⟨b', c', es, clk, q1, q2, q3, q4, q5⟩ := hs.holds id _ ((ha id (by simp)).trans hH)
            rw [g1] at q1; injection q1 with q1; injection q1 with q1 q1'; injection q1 with q1; injection q1 with q1; subst q1
            have ey : a.eval y = .string ⟨s.toArray⟩ := hr y _ hoy hy
            obtain ⟨r, r1, r2⟩ := findNow_sel (k := k) s z es.toList ss ns 0 (strsOf_rep hss q3) (numsOf_rep hns q4)
            obtain ⟨v, v1, v2, _⟩ := run_zero (P := P) w htt hee hz
            have ev : v = .int k z := v2 G φ
            subst ev
            have hl := run_look (P := P) h2 k2 q2 (k := .string ⟨s.toArray⟩) (by simp [IsKey]) r1 false (.int k z) (fun _ => v1)
            refine ⟨.int k (selI s ss ns z), ?_, rfl⟩
            unfold execOp
            rw [ho]
            cases r with
            | none => simp only [Sem.run_bind, g2, ey, hl, Result.andThen_ok, Sem.run_pure]; exact congrArg (fun v => Result.ok (Next.value v) w) r2
            | some p => simp only [Sem.run_bind, g2, ey, hl, Result.andThen_ok, Sem.run_pure]; exact congrArg (fun v => Result.ok (Next.value v) w) r2
          · exact h.elim
        · exact h.elim
      · exact h.elim
    · exact h.elim
  · exact h.elim
/-- A text's bytes, as a slice. -/
def byteRows (l : List UInt8) : List (List D) := l.map fun b => [.int .u8 b.toNat]
def pBytes (tt : TT) (s t el : TypeId) (l : List UInt8) (K : Eff → Prop) : Prop := match tt s, tt el with
  | some _, some te => match te.kind with
    | .int .u8 => kv K (.d (.sl (byteRows l)))
    | _ => False
  | _, _ => False
def pConvB (tt : TT) (s t : TypeId) (X : V) (K : Eff → Prop) : Prop := match tt t with
  | some e => match e.kind with
    | .slice el => match X with
      | .d (.str l) => pBytes tt s t el l K
      | _ => False
    | _ => pConv tt s t X K
  | none => False
theorem pConvB_sem (htt : TTok P tt) {s t : TypeId} {x : Operand} {X : V} (ho : o.op = .convert s t x) (hx : ev ρ x = some X) (h : pConvB tt s t X K) : ∃ e, K e ∧ Tri P o ρ H e := by
  have hox : x ∈ o.op.operands := by rw [ho]; simp [Op.operands]
  unfold pConvB at h
  split at h
  · rename_i e he
    split at h
    · rename_i el hk
      obtain ⟨ti, d, h1, h2, _, _, h3, _⟩ := tt_get htt he
      rw [hk] at h3; rw [mkK_slice h3] at h2
      split at h
      · rename_i l
        unfold pBytes at h
        split at h
        · rename_i es te hes hte
          obtain ⟨i0, d0, g1, g2, _, _, g3, _⟩ := tt_get htt hes
          obtain ⟨i1, d1, k1, k2, _, _, k3, _⟩ := tt_get htt hte
          split at h
          · rename_i hk8
            rw [hk8] at k3
            rw [mkK_int k3] at k2
            refine ⟨_, h, ⟨by simp, by simp, fun a G w φ Hx K Q hs hr ha hf hK => ?_⟩⟩
            have ex : a.eval x = .string ⟨l.toArray⟩ := hr x _ hox hx
            have hsz : (ByteArray.mk l.toArray).size = l.length := by simp [ByteArray.size]
            have run : (execOp a.eval o).run P w = .ok (.value (.slice (some ⟨w.heap.size, 0, none⟩) l.length (grownCap w l.length 0 el))) (Lib.bytesWorld w el ⟨l.toArray⟩) := by
              have := Lib.run_convert_string_bytes (P := P) w s t el ⟨l.toArray⟩ g2 h2 k2
              rw [hsz] at this
              unfold execOp
              rw [ho]
              simp only [Sem.run_bind, ex, this, Result.andThen_ok, Sem.run_pure]
            have hcap : l.length ≤ grownCap w l.length 0 el := by unfold grownCap; exact Nat.le_add_right _ _
            have hfresh := hs.inv.fresh (Nat.le_refl _)
            have hcell : ∀ (j : Nat) u, (l.map fun b => Value.int .u8 b.toNat)[j]? = some u → (Lib.bytesWorld w el ⟨l.toArray⟩).cell? ⟨w.heap.size, j, none⟩ = some u := fun j u hj => by
              have hlt := lt_of_get hj
              simp at hlt
              rw [Lib.bytesWorld_cell w el ⟨l.toArray⟩ j (by rw [hsz]; exact hlt)]
              rw [List.getElem?_map, List.getElem?_eq_getElem hlt] at hj
              simp at hj
              simp [List.getD, hlt, hj]
            have hst := hs.step (G' := addBlk G w.heap.size (l.map fun b => Value.int .u8 b.toNat)) (w' := Lib.bytesWorld w el ⟨l.toArray⟩) (φ' := φ) (H' := Hx) (fun _ => False) (addBlk_le hfresh _) (Loc.le.refl _) (fun _ _ _ => rfl) rfl rfl rfl (by rw [Lib.bytesWorld_size]; omega)
              (fun b hb _ => ⟨Lib.bytesWorld_at_old w el _ b hb, fun o => by unfold addBlk; rw [if_neg (by omega)]⟩) (fun _ _ => rfl)
              (hs.inv.of (addBlk_le hfresh _) (fun b cs T fr hb _ _ => Lib.bytesWorld_at_old w el _ b (Array.getElem?_eq_some_iff.1 hb).1) fun b o v hg => by
                unfold addBlk at hg
                split at hg
                · rename_i hb; subst hb; exact .inl ⟨hcell o v hg, by rw [List.getElem?_map, Option.map_eq_some_iff] at hg; obtain ⟨x, _, rfl⟩ := hg; rfl⟩
                · have hlt := (hs.inv.1 b o v hg).lt
                  exact (hs.inv.1 b o v hg).go (addBlk_le hfresh _) (fun h1 => by rw [Lib.bytesWorld_old w el _ ⟨b, o, none⟩ hlt]; exact h1) fun _ => Lib.bytesWorld_at_old w el _ b hlt)
              (by intros; contradiction) (by intros; contradiction) (by intros; contradiction) (by intros; contradiction)
            rw [upd_nil] at hK
            unfold Oper.wp
            rw [run, Oper.upon_value]
            refine hK _ _ _ _ hst.1 hst.2 ⟨some ⟨w.heap.size, 0, none⟩, grownCap w l.length 0 el, by simp [byteRows], by simp [byteRows, hcap], fun _ => ⟨w.heap.size, 0, 1, rfl, repRows_of fun i r hi => ?_⟩⟩
            unfold byteRows at hi
            rw [List.getElem?_map, Option.map_eq_some_iff] at hi
            obtain ⟨b, hb, rfl⟩ := hi
            refine ⟨rfl, repRow_of fun j d hj => ?_⟩
            cases j with
            | zero =>
              simp at hj; subst hj
              refine ⟨.int .u8 b.toNat, ?_, rfl⟩
              unfold addBlk
              rw [if_pos rfl]
              simp [hb]
            | succ j => simp at hj
          · exact h.elim
        · exact h.elim
      · exact h.elim
    · exact pConv_sem htt ho hx h
  · exact h.elim
end
end Go.Proofs.YtblnfodnkacbbaaGreatDoor.Q
