/- Pure values, and what they say of memory: numbers, bools, strings, slices whose cells are known for good; pointers to objects of a local heap. No condition. -/
import Derived.Orders
import Derived.Tactics
import Derived.Laws.AppendOwn
import Derived.Laws.Cells
import Derived.Below
set_option linter.unusedVariables false
set_option linter.unusedSectionVars false
set_option linter.unnecessarySimpa false
set_option linter.unusedSimpArgs false
namespace Go.Proofs.Ytlafnhpmhflnaaa.Q

/-- What is known of memory for good: block, cell. -/
abbrev Imm := Nat → Nat → Option Value
/-- Where a local object lies: by its number, and (of the room behind a slice) how many rows it has; nowhere: not yet. -/
abbrev Loc := Nat → Nat → Option (Option (Nat × Nat) × Nat)

/-- What one cell that never changes says. -/
inductive D where
  | int (k : IntKind) (n : Int)
  | bool (b : Bool)
  | str (s : List UInt8)
  | sl (rows : List (List D))
  | raw (v : Value)

/-- What a frame's slot or a cell that changes holds. -/
inductive V where
  | d (x : D)
  | agg (cs : List V)
  | tup (vs : List V)
  | ptr (id off : Nat)
  | iptr (row : List D)
  | eptr (id i off : Nat)
  | fsl (rows : List (List D))
  | gsl (rows : List (List D)) (t : Nat)
  | vsl (rows : List (List V))
  | arr (id off len : Nat)
  | map (id : Nat)
  | fn (f : Fn) (first captured : List V)
  | yld (id : Nat)
  | undef

/-- An object of a local heap. -/
inductive Ob where
  | box (cells : List V)
  | tip (esz n : Nat)
  | parr (esz : Nat) (rows : List (List D))
  | hist (xs : List (List V))
  | dead

/-! ### what pure data says of memory -/
def Addr0 (A : Option (Nat × Nat)) : Option Addr := A.map fun p => ⟨p.1, p.2, none⟩
mutual
def D.rep (G : Imm) : D → Value → Prop
  | .int k n, v => v = .int k n
  | .bool b, v => v = .bool b
  | .str s, v => v = .string ⟨s.toArray⟩
  | .raw u, v => v = u ∧ u.oneCell' = true
  | .sl rows, v => ∃ (A : Option Addr) (c : Nat), v = .slice A rows.length c ∧ rows.length ≤ c ∧ (rows ≠ [] → ∃ b o e, A = some ⟨b, o, none⟩ ∧ repRows G b o e rows)
def repRow (G : Imm) (b : Nat) : Nat → List D → Prop
  | _, [] => True
  | o, d :: ds => (∃ u, G b o = some u ∧ d.rep G u) ∧ repRow G b (o + 1) ds
def repRows (G : Imm) (b : Nat) : Nat → Nat → List (List D) → Prop
  | _, _, [] => True
  | o, e, r :: rs => r.length = e ∧ repRow G b o r ∧ repRows G b (o + e) e rs
end

theorem a0 {α : Type} {rows : List α} {A : Option (Nat × Nat)} {X : Nat → Nat → Nat → Prop} (h : rows ≠ [] → ∃ b o e, A = some (b, o) ∧ X b o e) : rows ≠ [] → ∃ b o e, Addr0 A = some ⟨b, o, none⟩ ∧ X b o e := fun hn => by
  obtain ⟨b, o, e, hA, hr⟩ := h hn
  exact ⟨b, o, e, by rw [hA]; rfl, hr⟩
/-- G' knows all that G knows. -/
def Imm.le (G G' : Imm) : Prop := ∀ b o v, G b o = some v → G' b o = some v
theorem Imm.le.refl (G : Imm) : G.le G := fun _ _ _ h => h
theorem Imm.le.trans {G1 G2 G3 : Imm} (h : G1.le G2) (k : G2.le G3) : G1.le G3 := fun b o v e => k b o v (h b o v e)
def Loc.le (φ φ' : Loc) : Prop := ∀ i n z, φ i n = some z → φ' i n = some z
theorem Loc.le.refl (φ : Loc) : φ.le φ := fun _ _ _ h => h
theorem Loc.le.trans {a b c : Loc} (h : a.le b) (k : b.le c) : a.le c := fun i n z e => k i n z (h i n z e)

mutual
theorem D.rep_mono {G G' : Imm} (h : G.le G') : ∀ (x : D) (v : Value), x.rep G v → x.rep G' v
  | .int k n, v, e => e
  | .bool b, v, e => e
  | .str s, v, e => e
  | .raw u, v, e => e
  | .sl rows, v, ⟨A, c, e1, e2, e3⟩ => ⟨A, c, e1, e2, fun hn => by
      obtain ⟨b, o, e, hA, hr⟩ := e3 hn
      exact ⟨b, o, e, hA, repRows_mono h b o e rows hr⟩⟩
theorem repRow_mono {G G' : Imm} (h : G.le G') (b : Nat) : ∀ (o : Nat) (r : List D), repRow G b o r → repRow G' b o r
  | _, [], _ => trivial
  | o, d :: ds, ⟨⟨u, h1, h2⟩, h3⟩ => ⟨⟨u, h b o u h1, d.rep_mono h u h2⟩, repRow_mono h b (o + 1) ds h3⟩
theorem repRows_mono {G G' : Imm} (h : G.le G') (b : Nat) : ∀ (o e : Nat) (rs : List (List D)), repRows G b o e rs → repRows G' b o e rs
  | _, _, [], _ => trivial
  | o, e, r :: rs, ⟨h1, h2, h3⟩ => ⟨h1, repRow_mono h b o r h2, repRows_mono h b (o + e) e rs h3⟩
end

theorem D.rep_one {G : Imm} {x : D} {v : Value} (h : x.rep G v) : v.oneCell' = true := by
  cases x <;> simp only [D.rep] at h
  case int => subst h; rfl
  case bool => subst h; rfl
  case str => subst h; rfl
  case raw => rw [h.1]; exact h.2
  case sl => obtain ⟨A, c, rfl, _⟩ := h; rfl

theorem repRow_get {G : Imm} {b : Nat} : ∀ {o : Nat} {r : List D}, repRow G b o r → ∀ (j : Nat) d, r[j]? = some d → ∃ u, G b (o + j) = some u ∧ d.rep G u
  | _, [], _, j, d, h => by simp at h
  | o, x :: xs, ⟨h1, h2⟩, 0, d, h => by simp at h; subst h; simpa using h1
  | o, x :: xs, ⟨h1, h2⟩, j + 1, d, h => by
    have := repRow_get h2 j d (by simpa using h)
    rwa [show o + 1 + j = o + (j + 1) by omega] at this
theorem repRow_of {G : Imm} {b : Nat} : ∀ {o : Nat} {r : List D}, (∀ (j : Nat) d, r[j]? = some d → ∃ u, G b (o + j) = some u ∧ d.rep G u) → repRow G b o r
  | _, [], _ => trivial
  | o, x :: xs, h => ⟨by simpa using h 0 x rfl, repRow_of fun j d hj => by
      have := h (j + 1) d (by simpa using hj)
      rwa [show o + (j + 1) = o + 1 + j by omega] at this⟩
theorem repRow_drop {G : Imm} {b o : Nat} {r : List D} (h : repRow G b o r) (k : Nat) : repRow G b (o + k) (r.drop k) :=
  repRow_of fun j d hj => by
    rw [List.getElem?_drop] at hj
    rw [Nat.add_assoc]; exact repRow_get h _ d hj
theorem repRow_take {G : Imm} {b o : Nat} {r : List D} (h : repRow G b o r) (k : Nat) : repRow G b o (r.take k) :=
  repRow_of fun j d hj => by
    rw [List.getElem?_take] at hj
    split at hj
    · exact repRow_get h _ d hj
    · cases hj
theorem repRows_get {G : Imm} {b : Nat} : ∀ {o e : Nat} {rs : List (List D)}, repRows G b o e rs → ∀ (i : Nat) r, rs[i]? = some r → r.length = e ∧ repRow G b (o + i * e) r
  | _, _, [], _, i, r, h => by simp at h
  | o, e, x :: xs, ⟨h0, h1, h2⟩, 0, r, h => by simp at h; subst h; simpa using ⟨h0, h1⟩
  | o, e, x :: xs, ⟨h0, h1, h2⟩, i + 1, r, h => by
    have := repRows_get h2 i r (by simpa using h)
    rwa [show o + e + i * e = o + (i + 1) * e by rw [Nat.succ_mul]; omega] at this
theorem repRows_of {G : Imm} {b : Nat} : ∀ {o e : Nat} {rs : List (List D)}, (∀ (i : Nat) r, rs[i]? = some r → r.length = e ∧ repRow G b (o + i * e) r) → repRows G b o e rs
  | _, _, [], _ => trivial
  | o, e, x :: xs, h => by
    have h0 := h 0 x rfl
    refine ⟨h0.1, by simpa using h0.2, repRows_of fun i r hi => ?_⟩
    have := h (i + 1) r (by simpa using hi)
    rwa [show o + (i + 1) * e = o + e + i * e by rw [Nat.succ_mul]; omega] at this
theorem repRows_append {G : Imm} {b o e : Nat} {rs qs : List (List D)} (h : repRows G b o e rs) (k : repRows G b (o + rs.length * e) e qs) : repRows G b o e (rs ++ qs) :=
  repRows_of fun i r hi => by
    rw [List.getElem?_append] at hi
    split at hi
    · exact repRows_get h i r hi
    · rename_i hn
      have := repRows_get k _ r hi
      rwa [Nat.add_assoc, ← Nat.add_mul, show rs.length + (i - rs.length) = i by omega] at this
theorem repRows_left {G : Imm} {b o e : Nat} {rs qs : List (List D)} (h : repRows G b o e (rs ++ qs)) : repRows G b o e rs :=
  repRows_of fun i r hi => repRows_get h i r (by rw [List.getElem?_append]; have := (List.getElem?_eq_some_iff.1 hi).1; rw [if_pos this]; exact hi)
theorem repRows_take {G : Imm} {b o e : Nat} {rs : List (List D)} (h : repRows G b o e rs) (k : Nat) : repRows G b o e (rs.take k) :=
  repRows_of fun i r hi => repRows_get h i r (by
    rw [List.getElem?_take] at hi
    split at hi
    · exact hi
    · cases hi)
theorem repRows_drop {G : Imm} {b o e : Nat} {rs : List (List D)} (h : repRows G b o e rs) (k : Nat) : repRows G b (o + k * e) e (rs.drop k) :=
  repRows_of fun i r hi => by
    rw [List.getElem?_drop] at hi
    have := repRows_get h _ r hi
    rwa [Nat.add_mul, ← Nat.add_assoc] at this
theorem repRows_len {G : Imm} {b o e : Nat} {rs : List (List D)} (h : repRows G b o e rs) (r : List D) (hr : r ∈ rs) : r.length = e := by
  obtain ⟨i, hi⟩ := List.getElem?_of_mem hr
  exact (repRows_get h i r hi).1

/-! ### what a frame's values say -/
mutual
def V.rep (G : Imm) (φ : Loc) : V → Value → Prop
  | .d x, v => x.rep G v
  | .agg cs, v => ∃ us : List Value, v = .agg us.toArray ∧ repVs G φ cs us ∧ (∀ u ∈ us, u.oneCell' = true)
  | .tup cs, v => ∃ us : List Value, v = .tuple us.toArray ∧ repVs G φ cs us
  | .ptr id off, v => ∃ b c, φ id 0 = some (some (b, 0), c) ∧ v = .pointer (some ⟨b, off, none⟩)
  | .eptr id i off, v => ∃ b c, φ id 0 = some (some (b, 0), c) ∧ v = .pointer (some ⟨b, i * c + off, none⟩)
  | .iptr row, v => ∃ b o, v = .pointer (some ⟨b, o, none⟩) ∧ repRow G b o row
  | .fsl rows, v => ∃ A, v = .slice (Addr0 A) rows.length rows.length ∧ (rows ≠ [] → ∃ b o e, A = some (b, o) ∧ repRows G b o e rows)
  | .gsl rows t, v => ∃ A c, φ t rows.length = some (A, c) ∧ v = .slice (Addr0 A) rows.length c ∧ rows.length ≤ c ∧ (rows ≠ [] → ∃ b o e, A = some (b, o) ∧ repRows G b o e rows)
  | .vsl rows, v => ∃ A c, v = .slice (Addr0 A) rows.length c ∧ rows.length ≤ c ∧ (rows ≠ [] → ∃ b o e, A = some (b, o) ∧ repVrows G φ b o e rows)
  | .arr id off len, v => ∃ b c, φ id 0 = some (some (b, 0), c) ∧ ∃ k, len ≤ k ∧ v = .slice (some ⟨b, off * c, none⟩) len k
  | .map id, v => ∃ b c, φ id 0 = some (some (b, 0), c) ∧ v = .map (some b)
  | .fn f first captured, v => ∃ us vs : List Value, v = .func f us.toArray vs.toArray ∧ repVs G φ first us ∧ repVs G φ captured vs
  | .yld id, v => ∃ b c, φ id 0 = some (some (b, 0), c) ∧ v = .func (.yield b) #[] #[]
  | .undef, v => True
def repVs (G : Imm) (φ : Loc) : List V → List Value → Prop
  | [], us => us = []
  | x :: xs, us => ∃ u us', us = u :: us' ∧ x.rep G φ u ∧ repVs G φ xs us'
def repVrow (G : Imm) (φ : Loc) (b : Nat) : Nat → List V → Prop
  | _, [] => True
  | o, d :: ds => (∃ u, G b o = some u ∧ d.rep G φ u ∧ u.oneCell' = true) ∧ repVrow G φ b (o + 1) ds
def repVrows (G : Imm) (φ : Loc) (b : Nat) : Nat → Nat → List (List V) → Prop
  | _, _, [] => True
  | o, e, r :: rs => r.length = e ∧ repVrow G φ b o r ∧ repVrows G φ b (o + e) e rs
end

mutual
theorem V.rep_mono {G G' : Imm} {φ φ' : Loc} (h : G.le G') (k : φ.le φ') : ∀ (x : V) (v : Value), x.rep G φ v → x.rep G' φ' v
  | .d x, v, e => x.rep_mono h v e
  | .agg cs, v, ⟨us, e, h1, h2⟩ => ⟨us, e, repVs_mono h k cs us h1, h2⟩
  | .tup cs, v, ⟨us, e, h1⟩ => ⟨us, e, repVs_mono h k cs us h1⟩
  | .ptr id off, v, ⟨b, c, h1, h2⟩ => ⟨b, c, k _ _ _ h1, h2⟩
  | .eptr id i off, v, ⟨b, c, h1, h2⟩ => ⟨b, c, k _ _ _ h1, h2⟩
  | .iptr row, v, ⟨b, o, e, h1⟩ => ⟨b, o, e, repRow_mono h b o row h1⟩
  | .fsl rows, v, ⟨A, e, h1⟩ => ⟨A, e, fun hn => let ⟨b, o, e, hA, hr⟩ := h1 hn; ⟨b, o, e, hA, repRows_mono h b o e rows hr⟩⟩
  | .gsl rows t, v, ⟨A, c, h0, e, hl, h1⟩ => ⟨A, c, k _ _ _ h0, e, hl, fun hn => let ⟨b, o, e, hA, hr⟩ := h1 hn; ⟨b, o, e, hA, repRows_mono h b o e rows hr⟩⟩
  | .vsl rows, v, ⟨A, c, e, hl, h1⟩ => ⟨A, c, e, hl, fun hn => let ⟨b, o, e, hA, hr⟩ := h1 hn; ⟨b, o, e, hA, repVrows_mono h k b o e rows hr⟩⟩
  | .arr id off len, v, ⟨b, c, h1, h2⟩ => ⟨b, c, k _ _ _ h1, h2⟩
  | .map id, v, ⟨b, c, h1, h2⟩ => ⟨b, c, k _ _ _ h1, h2⟩
  | .fn f first captured, v, ⟨us, vs, e, h1, h2⟩ => ⟨us, vs, e, repVs_mono h k first us h1, repVs_mono h k captured vs h2⟩
  | .yld id, v, ⟨b, c, h1, h2⟩ => ⟨b, c, k _ _ _ h1, h2⟩
  | .undef, v, _ => trivial
theorem repVs_mono {G G' : Imm} {φ φ' : Loc} (h : G.le G') (k : φ.le φ') : ∀ (xs : List V) (us : List Value), repVs G φ xs us → repVs G' φ' xs us
  | [], us, e => e
  | x :: xs, us, ⟨u, us', e, h1, h2⟩ => ⟨u, us', e, x.rep_mono h k u h1, repVs_mono h k xs us' h2⟩
theorem repVrow_mono {G G' : Imm} {φ φ' : Loc} (h : G.le G') (k : φ.le φ') (b : Nat) : ∀ (o : Nat) (r : List V), repVrow G φ b o r → repVrow G' φ' b o r
  | _, [], _ => trivial
  | o, d :: ds, ⟨⟨u, h1, h2, h4⟩, h3⟩ => ⟨⟨u, h b o u h1, d.rep_mono h k u h2, h4⟩, repVrow_mono h k b (o + 1) ds h3⟩
theorem repVrows_mono {G G' : Imm} {φ φ' : Loc} (h : G.le G') (k : φ.le φ') (b : Nat) : ∀ (o e : Nat) (rs : List (List V)), repVrows G φ b o e rs → repVrows G' φ' b o e rs
  | _, _, [], _ => trivial
  | o, e, r :: rs, ⟨h1, h2, h3⟩ => ⟨h1, repVrow_mono h k b o r h2, repVrows_mono h k b (o + e) e rs h3⟩
end

theorem repVs_len {G : Imm} {φ : Loc} : ∀ {xs : List V} {us : List Value}, repVs G φ xs us → us.length = xs.length
  | [], _, h => by rw [show _ = [] from h]; rfl
  | x :: xs, _, ⟨u, us', e, _, h⟩ => by rw [e, List.length_cons, List.length_cons, repVs_len h]
theorem repVs_get {G : Imm} {φ : Loc} : ∀ {xs : List V} {us : List Value}, repVs G φ xs us → ∀ (i : Nat) x, xs[i]? = some x → ∃ u, us[i]? = some u ∧ x.rep G φ u
  | [], _, _, i, x, h => by simp at h
  | y :: ys, _, ⟨u, us', e, h1, h2⟩, 0, x, h => by simp at h; subst h; exact ⟨u, by rw [e]; rfl, h1⟩
  | y :: ys, _, ⟨u, us', e, h1, h2⟩, i + 1, x, h => by
    obtain ⟨u', a, b⟩ := repVs_get h2 i x (by simpa using h)
    exact ⟨u', by rw [e]; simpa using a, b⟩
theorem repVs_of {G : Imm} {φ : Loc} : ∀ {xs : List V} {us : List Value}, us.length = xs.length → (∀ (i : Nat) x u, xs[i]? = some x → us[i]? = some u → x.rep G φ u) → repVs G φ xs us
  | [], us, hl, _ => List.length_eq_zero_iff.1 (by simpa using hl)
  | x :: xs, [], hl, _ => by simp at hl
  | x :: xs, u :: us, hl, h => ⟨u, us, rfl, h 0 x u rfl rfl, repVs_of (by simpa using hl) fun i x u h1 h2 => h (i + 1) x u (by simpa using h1) (by simpa using h2)⟩
theorem repVs_append {G : Imm} {φ : Loc} : ∀ {xs : List V} {us : List Value} {ys : List V} {vs : List Value}, repVs G φ xs us → repVs G φ ys vs → repVs G φ (xs ++ ys) (us ++ vs)
  | [], _, ys, vs, h, k => by rw [show _ = [] from h]; exact k
  | x :: xs, _, ys, vs, ⟨u, us', e, h1, h2⟩, k => ⟨u, us' ++ vs, by rw [e]; rfl, h1, repVs_append h2 k⟩
theorem repVs_set {G : Imm} {φ : Loc} {xs : List V} {us : List Value} (h : repVs G φ xs us) (i : Nat) {x : V} {u : Value} (hx : x.rep G φ u) : repVs G φ (xs.set i x) (us.set i u) :=
  repVs_of (by simp [repVs_len h]) fun j y v h1 h2 => by
    rw [List.getElem?_set] at h1 h2
    split at h1
    · rename_i hij
      simp only [hij, if_true] at h2
      split at h1 <;> split at h2 <;> simp_all
    · rename_i hij
      simp only [hij, if_false] at h2
      obtain ⟨u', a, b⟩ := repVs_get h j y h1
      rw [a] at h2; injection h2 with h2; rw [← h2]; exact b
theorem repVs_take {G : Imm} {φ : Loc} {xs : List V} {us : List Value} (h : repVs G φ xs us) (k : Nat) : repVs G φ (xs.take k) (us.take k) :=
  repVs_of (by simp [repVs_len h]) fun j y v h1 h2 => by
    rw [List.getElem?_take] at h1 h2
    split at h1
    · rename_i hlt
      simp only [hlt, if_true] at h2
      obtain ⟨u', a, b⟩ := repVs_get h j y h1
      rw [a] at h2; injection h2 with h2; rw [← h2]; exact b
    · cases h1
theorem repVs_drop {G : Imm} {φ : Loc} {xs : List V} {us : List Value} (h : repVs G φ xs us) (k : Nat) : repVs G φ (xs.drop k) (us.drop k) :=
  repVs_of (by simp [repVs_len h]) fun j y v h1 h2 => by
    rw [List.getElem?_drop] at h1 h2
    obtain ⟨u', a, b⟩ := repVs_get h _ y h1
    rw [a] at h2; injection h2 with h2; rw [← h2]; exact b
theorem repVs_d {G : Imm} {φ : Loc} {b o : Nat} {r : List D} (h : repRow G b o r) : ∃ us : List Value, us.length = r.length ∧ repVs G φ (r.map V.d) us ∧ (∀ u ∈ us, u.oneCell' = true) ∧ ∀ (j : Nat) u, us[j]? = some u → G b (o + j) = some u := by
  induction r generalizing o with
  | nil => exact ⟨[], rfl, rfl, by simp, by simp⟩
  | cons d ds ih =>
    obtain ⟨⟨u, h1, h2⟩, h3⟩ := h
    obtain ⟨us, hl, hv, h1c, hg⟩ := ih h3
    refine ⟨u :: us, by simp [hl], ⟨u, us, rfl, h2, hv⟩, ?_, ?_⟩
    · intro x hx
      rcases List.mem_cons.1 hx with rfl | hx
      · exact D.rep_one h2
      · exact h1c x hx
    · intro j x hj
      cases j with
      | zero => simp at hj; subst hj; simpa using h1
      | succ j =>
        have := hg j x (by simpa using hj)
        rwa [show o + 1 + j = o + (j + 1) by omega] at this
theorem repRow_cells {G : Imm} {b : Nat} : ∀ {o : Nat} {r : List D}, repRow G b o r → ∃ us : List Value, us.length = r.length ∧ (∀ (j : Nat) d, r[j]? = some d → ∃ u, us[j]? = some u ∧ d.rep G u) ∧ (∀ (j : Nat) u, us[j]? = some u → G b (o + j) = some u) ∧ True
  | o, [], _ => ⟨[], rfl, by simp, by simp, trivial⟩
  | o, d :: ds, ⟨⟨u, h1, h2⟩, h3⟩ => by
    obtain ⟨us, g1, g2, g3, _⟩ := repRow_cells h3
    refine ⟨u :: us, by simp [g1], fun j d' hj => ?_, fun j x hj => ?_, trivial⟩
    · cases j with
      | zero => simp at hj; subst hj; exact ⟨u, rfl, h2⟩
      | succ j => simpa using g2 j d' (by simpa using hj)
    · cases j with
      | zero => simp at hj; subst hj; simpa using h1
      | succ j =>
        have := g3 j x (by simpa using hj)
        rwa [show o + 1 + j = o + (j + 1) by omega] at this
end Go.Proofs.Ytlafnhpmhflnaaa.Q
