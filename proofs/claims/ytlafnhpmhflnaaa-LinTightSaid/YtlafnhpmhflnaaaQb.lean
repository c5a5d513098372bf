/- A local heap in the world: what its objects say, what a step may touch, what stays. No condition. -/
import Derived.Test.YtlafnhpmhflnaaaQa
import Derived.CallsIn
set_option linter.unusedVariables false
set_option linter.unusedSectionVars false
set_option linter.unnecessarySimpa false
set_option linter.unusedSimpArgs false
namespace Go.Proofs.Ytlafnhpmhflnaaa.Q

/-- What is known for good is so. -/
def Inv (G : Imm) (w : World) : Prop := ∀ b o v, G b o = some v → w.cell? ⟨b, o, none⟩ = some v
/-- A function that is called back: what it keeps of the world, by the arguments that it was called with so far. -/
class Amb where
  l : Nat
  J : List (List V) → Imm → World → (Nat → Prop) → Prop
  ok : Program → List (List V) → Prop
  go : List (List V) → Bool
  lt : ∀ {xs : List (List V)} {G : Imm} {w : World} {B : Nat → Prop}, J xs G w B → ∀ b, B b → b < w.heap.size
  stable : ∀ {xs : List (List V)} {G G' : Imm} {w w' : World} {B : Nat → Prop}, J xs G w B → G.le G' → (∀ b, B b → w'.heap[b]? = w.heap[b]? ∧ ∀ o, G' b o = G b o) → J xs G' w' B
  yield : ∀ {P : Program} {xs : List (List V)} {args : List V} {G : Imm} {w : World} {B : Nat → Prop} {vs : List Value}, ok P (xs ++ [args]) → (∀ m, 0 < m → m ≤ xs.length → go (xs.take m) = true) → J xs G w B → Inv G w → (∀ φ, repVs G φ args vs) →
    ∃ f tmps assign body, (Instr.yield l vs.toArray).run P w = .ok (.round l f tmps assign body) w ∧ RoundIn Fence.wide 0 P l f tmps assign body w fun e w' => ∃ (G' : Imm) (B' : Nat → Prop), e = .returned (.bool (go (xs ++ [args]))) ∧ J (xs ++ [args]) G' w' B' ∧ Inv G' w' ∧ G.le G' ∧
      (w'.os = w.os ∧ w'.tape = w.tape ∧ w'.output = w.output ∧ w.heap.size ≤ w'.heap.size) ∧ (∀ b, B b → B' b) ∧ (∀ b, B' b → B b ∨ w.heap.size ≤ b) ∧ ∀ b, b < w.heap.size → ¬ B b → w'.heap[b]? = w.heap[b]? ∧ ∀ o, G' b o = G b o
variable [Amb]

def Holds (G : Imm) (w : World) (φ : Loc) (id : Nat) : Ob → Prop
  | .hist xs => (∃ c, φ id 0 = some (some (Amb.l, 0), c)) ∧ Amb.J xs G w (fun b => (φ id (b + 1)).isSome = true)
  | .dead => True
  | .box cells => ∃ b c T us, φ id 0 = some (some (b, 0), c) ∧ w.heap[b]? = some (.cells (List.toArray us) T (0, 0)) ∧ repVs G φ cells us ∧ (∀ u ∈ us, u.oneCell' = true) ∧ (∀ o, G b o = none)
  | .tip e n => ∃ A c, φ id n = some (A, c) ∧ n ≤ c ∧ (∀ m, n < m → φ id m = none) ∧
      (n < c → ∃ b o cs T fr, A = some (b, o) ∧ w.heap[b]? = some (.cells cs T fr) ∧ o + c * e ≤ cs.size ∧ (∀ j, o + n * e ≤ j → G b j = none) ∧ fr.2 ≤ o + n * e)
  | .parr e rows => ∃ b T us, φ id 0 = some (some (b, 0), e) ∧ w.heap[b]? = some (.cells (List.toArray us) T (0, 0)) ∧ us.length = rows.length * e ∧
      (∀ (i : Nat) r, rows[i]? = some r → r.length = e ∧ ∀ (j : Nat) d, r[j]? = some d → ∃ u, us[i * e + j]? = some u ∧ d.rep G u) ∧ (∀ o, G b o = none)

/-- The block that an object has for itself. -/
def own (φ : Loc) (id : Nat) : Ob → Option Nat
  | .hist _ => none
  | .dead => none
  | .box _ => match φ id 0 with | some (some (b, _), _) => some b | _ => none
  | .parr _ _ => match φ id 0 with | some (some (b, _), _) => some b | _ => none
  | .tip _ n => match φ id n with | some (some (b, _), c) => if n < c then some b else none | _ => none

/-- The blocks that an object has for itself. -/
def Owns (φ : Loc) (id : Nat) (ob : Ob) (b : Nat) : Prop := match ob with
  | .hist _ => (φ id (b + 1)).isSome = true
  | ob => own φ id ob = some b
theorem own_lt {G : Imm} {w : World} {φ : Loc} {id : Nat} {ob : Ob} {b : Nat} (h : Holds G w φ id ob) (k : Owns φ id ob b) : b < w.heap.size := by
  cases ob with
  | hist xs => exact Amb.lt h.2 b k
  | dead => simp [Owns, own] at k
  | box cells =>
    obtain ⟨b', c, T, us, h1, h2, _⟩ := h
    simp [Owns, own, h1] at k; subst k
    exact (Array.getElem?_eq_some_iff.1 h2).1
  | parr e rows =>
    obtain ⟨b', T, us, h1, h2, _⟩ := h
    simp [Owns, own, h1] at k; subst k
    exact (Array.getElem?_eq_some_iff.1 h2).1
  | tip e n =>
    obtain ⟨A, c, h1, h2, h3, h4⟩ := h
    simp only [Owns, own, h1] at k
    cases A with
    | none => simp at k
    | some A =>
      by_cases hc : n < c
      · obtain ⟨b', o, cs, T, fr, hA, hb, _⟩ := h4 hc
        injection hA with hA
        subst hA
        simp [hc] at k; subst k
        exact (Array.getElem?_eq_some_iff.1 hb).1
      · simp [hc] at k

abbrev Hp := Nat → Option Ob
structure Sit (G : Imm) (w : World) (φ : Loc) (H : Hp) : Prop where
  inv : Inv G w
  holds : ∀ i ob, H i = some ob → Holds G w φ i ob
  dist : ∀ i j ob ob' b, i ≠ j → H i = some ob → H j = some ob' → Owns φ i ob b → Owns φ j ob' b → False
  un : ∀ i, H i = none → ∀ n, φ i n = none

def ownS (φ : Loc) (H : Hp) (b : Nat) : Prop := ∃ i ob, H i = some ob ∧ Owns φ i ob b
/-- What a step has left as it was. -/
structure Goes (G : Imm) (w : World) (φ : Loc) (H : Hp) (G' : Imm) (w' : World) (φ' : Loc) (H' : Hp) : Prop where
  le : G.le G'
  ple : φ.le φ'
  os : w'.os = w.os
  tape : w'.tape = w.tape
  output : w'.output = w.output
  size : w.heap.size ≤ w'.heap.size
  block : ∀ b, b < w.heap.size → ¬ ownS φ H b → w'.heap[b]? = w.heap[b]? ∧ ∀ o, G' b o = G b o
  owns : ∀ b, ownS φ' H' b → ownS φ H b ∨ w.heap.size ≤ b

theorem Goes.refl (G : Imm) (w : World) (φ : Loc) (H : Hp) : Goes G w φ H G w φ H := ⟨Imm.le.refl _, Loc.le.refl _, rfl, rfl, rfl, Nat.le_refl _, fun _ _ _ => ⟨rfl, fun _ => rfl⟩, fun _ h => .inl h⟩
theorem Goes.trans {G G1 G2 : Imm} {w w1 w2 : World} {φ φ1 φ2 : Loc} {H H1 H2 : Hp} (a : Goes G w φ H G1 w1 φ1 H1) (b : Goes G1 w1 φ1 H1 G2 w2 φ2 H2) : Goes G w φ H G2 w2 φ2 H2 where
  le := a.le.trans b.le
  ple := a.ple.trans b.ple
  os := b.os.trans a.os
  tape := b.tape.trans a.tape
  output := b.output.trans a.output
  size := Nat.le_trans a.size b.size
  block := fun k hk hn => by
    have h1 := a.block k hk hn
    have h2 := b.block k (Nat.lt_of_lt_of_le hk a.size) (fun ho => by
      rcases a.owns k ho with h | h
      · exact hn h
      · omega)
    exact ⟨h2.1.trans h1.1, fun o => (h2.2 o).trans (h1.2 o)⟩
  owns := fun k hk => by
    rcases b.owns k hk with h | h
    · exact a.owns k h
    · exact .inr (Nat.le_trans a.size h)

/-- What is not touched still holds. -/
theorem Holds.keep {G G' : Imm} {w w' : World} {φ φ' : Loc} {i : Nat} {ob : Ob} (h : Holds G w φ i ob) (hle : G.le G') (hple : φ.le φ') (hφ : ∀ n, φ' i n = φ i n)
    (hb : ∀ b, Owns φ i ob b → w'.heap[b]? = w.heap[b]? ∧ ∀ o, G' b o = G b o) : Holds G' w' φ' i ob := by
  cases ob with
  | hist xs =>
    obtain ⟨⟨c, h1⟩, h2⟩ := h
    refine ⟨⟨c, by rw [hφ]; exact h1⟩, ?_⟩
    have e : (fun b => (φ' i (b + 1)).isSome = true) = (fun b => (φ i (b + 1)).isSome = true) := by funext b; rw [hφ]
    rw [e]
    exact Amb.stable h2 hle fun b hb' => hb b hb'
  | dead => trivial
  | box cells =>
    obtain ⟨b, c, T, us, h1, h2, h3, h4, h5⟩ := h
    obtain ⟨k1, k2⟩ := hb b (by simp [Owns, own, h1])
    exact ⟨b, c, T, us, by rw [hφ]; exact h1, by rw [k1]; exact h2, repVs_mono hle hple _ _ h3, h4, fun o => by rw [k2]; exact h5 o⟩
  | parr e rows =>
    obtain ⟨b, T, us, h1, h2, h3, h4, h5⟩ := h
    obtain ⟨k1, k2⟩ := hb b (by simp [Owns, own, h1])
    refine ⟨b, T, us, by rw [hφ]; exact h1, by rw [k1]; exact h2, h3, fun i r hi => ⟨(h4 i r hi).1, fun j d hj => ?_⟩, fun o => by rw [k2]; exact h5 o⟩
    obtain ⟨u, e1, e2⟩ := (h4 i r hi).2 j d hj
    exact ⟨u, e1, d.rep_mono hle u e2⟩
  | tip e n =>
    obtain ⟨A, c, h1, h2, h3, h4⟩ := h
    refine ⟨A, c, by rw [hφ]; exact h1, h2, fun m hm => by rw [hφ]; exact h3 m hm, fun hc => ?_⟩
    obtain ⟨b, o, cs, T, fr, hA, hh, hs, hn, hf⟩ := h4 hc
    obtain ⟨k1, k2⟩ := hb b (by simp [Owns, own, h1, hA, hc])
    exact ⟨b, o, cs, T, fr, hA, by rw [k1]; exact hh, hs, fun j hj => by rw [k2]; exact hn j hj, hf⟩

theorem own_le {φ φ' : Loc} {i : Nat} {ob : Ob} (hφ : ∀ n, φ' i n = φ i n) : Owns φ' i ob = Owns φ i ob := by
  funext b
  cases ob <;> simp only [Owns, own, hφ]

/-- A step that touches what T says. -/
theorem Sit.step {G G' : Imm} {w w' : World} {φ φ' : Loc} {H H' : Hp} (hs : Sit G w φ H) (T : Nat → Prop)
    (hle : G.le G') (hple : φ.le φ') (hφ : ∀ i, ¬ T i → ∀ n, φ' i n = φ i n)
    (hos : w'.os = w.os) (htape : w'.tape = w.tape) (hout : w'.output = w.output) (hsize : w.heap.size ≤ w'.heap.size)
    (hblk : ∀ b, b < w.heap.size → (∀ i ob, T i → H i = some ob → ¬ Owns φ i ob b) → w'.heap[b]? = w.heap[b]? ∧ ∀ o, G' b o = G b o)
    (hH : ∀ i, ¬ T i → H' i = H i)
    (hinv : Inv G' w')
    (hnew : ∀ i ob, T i → H' i = some ob → Holds G' w' φ' i ob)
    (hdist : ∀ i j ob ob' b, T i → T j → i ≠ j → H' i = some ob → H' j = some ob' → Owns φ' i ob b → Owns φ' j ob' b → False)
    (hown : ∀ i ob b, T i → H' i = some ob → Owns φ' i ob b → (∃ j ob', T j ∧ H j = some ob' ∧ Owns φ j ob' b) ∨ w.heap.size ≤ b)
    (hun : ∀ i, T i → H' i = none → ∀ n, φ' i n = none) :
    Sit G' w' φ' H' ∧ Goes G w φ H G' w' φ' H' := by
  have keep : ∀ i ob, ¬ T i → H i = some ob → Holds G' w' φ' i ob := fun i ob hT hi => by
    have h0 := hs.holds i ob hi
    refine h0.keep hle hple (hφ i hT) fun b hb => hblk b (own_lt h0 hb) fun j ob' hj hHj hob => ?_
    exact hs.dist i j ob ob' b (fun e => hT (e ▸ hj)) hi hHj hb hob
  refine ⟨⟨hinv, ?_, ?_, ?_⟩, ⟨hle, hple, hos, htape, hout, hsize, ?_, ?_⟩⟩
  · intro i ob hi
    by_cases hT : T i
    · exact hnew i ob hT hi
    · rw [hH i hT] at hi; exact keep i ob hT hi
  · have mix : ∀ i j ob ob' b, T i → ¬ T j → H' i = some ob → H' j = some ob' → Owns φ' i ob b → Owns φ' j ob' b → False := by
      intro i j ob ob' b hi hj h1 h2 o1 o2
      rw [hH j hj] at h2
      rw [own_le (hφ j hj)] at o2
      rcases hown i ob b hi h1 o1 with ⟨k, ob3, hk, hHk, hok⟩ | hge
      · exact hs.dist k j ob3 ob' b (fun e => hj (e ▸ hk)) hHk h2 hok o2
      · have := own_lt (hs.holds j ob' h2) o2
        omega
    intro i j ob ob' b hij h1 h2 o1 o2
    by_cases hi : T i
    · by_cases hj : T j
      · exact hdist i j ob ob' b hi hj hij h1 h2 o1 o2
      · exact mix i j ob ob' b hi hj h1 h2 o1 o2
    · by_cases hj : T j
      · exact mix j i ob' ob b hj hi h2 h1 o2 o1
      · rw [hH i hi] at h1; rw [hH j hj] at h2
        rw [own_le (hφ i hi)] at o1; rw [own_le (hφ j hj)] at o2
        exact hs.dist i j ob ob' b hij h1 h2 o1 o2
  · intro i hi n
    by_cases hT : T i
    · exact hun i hT hi n
    · rw [hH i hT] at hi; rw [hφ i hT]; exact hs.un i hi n
  · intro b hb hn
    exact hblk b hb fun i ob _ hi ho => hn ⟨i, ob, hi, ho⟩
  · rintro b ⟨i, ob, hi, ho⟩
    by_cases hT : T i
    · rcases hown i ob b hT hi ho with ⟨j, ob', _, hj, hoj⟩ | h
      · exact .inl ⟨j, ob', hj, hoj⟩
      · exact .inr h
    · rw [hH i hT] at hi; rw [own_le (hφ i hT)] at ho
      exact .inl ⟨i, ob, hi, ho⟩

/-- Of fewer objects. -/
theorem Sit.less {G : Imm} {w : World} {φ : Loc} {H H' : Hp} (hs : Sit G w φ H) (h : ∀ i ob, H' i = some ob → H i = some ob) (k : ∀ i, H' i = none → ∀ n, φ i n = none) : Sit G w φ H' :=
  ⟨hs.inv, fun i ob hi => hs.holds i ob (h i ob hi), fun i j ob ob' b hij h1 h2 => hs.dist i j ob ob' b hij (h i ob h1) (h j ob' h2), k⟩

/-- The count of draws does not matter. -/
theorem Inv.drew {G : Imm} {w : World} (h : Inv G w) : Inv G w.drew := h
theorem Sit.drew {G : Imm} {w : World} {φ : Loc} {H : Hp} (hs : Sit G w φ H) : Sit G w.drew φ H :=
  ⟨hs.inv, fun i ob hi => (hs.holds i ob hi).keep (Imm.le.refl _) (Loc.le.refl _) (fun _ => rfl) (fun _ _ => ⟨rfl, fun _ => rfl⟩), hs.dist, hs.un⟩
theorem Goes.drew (G : Imm) (w : World) (φ : Loc) (H : Hp) : Goes G w φ H G w.drew φ H := ⟨Imm.le.refl _, Loc.le.refl _, rfl, rfl, rfl, Nat.le_refl _, fun _ _ _ => ⟨rfl, fun _ => rfl⟩, fun _ h => .inl h⟩

/-! ### slots -/
abbrev Env := List (Nat × V)
def lk : Env → Nat → Option V
  | [], _ => none
  | (k, x) :: r, t => bif Nat.beq k t then some x else lk r t
def EnvOk (G : Imm) (φ : Loc) (ρ : Env) (a : Act) : Prop := ∀ t x, lk ρ t = some x → ∃ v, a.tmps[t]? = some v ∧ x.rep G φ v
theorem EnvOk.mono {G G' : Imm} {φ φ' : Loc} {ρ : Env} {a : Act} (h : EnvOk G φ ρ a) (hle : G.le G') (hple : φ.le φ') : EnvOk G' φ' ρ a := fun t x hx => by
  obtain ⟨v, h1, h2⟩ := h t x hx
  exact ⟨v, h1, x.rep_mono hle hple v h2⟩
def put (ρ : Env) (t : Option Nat) (x : V) : Env := match t with | some t => (t, x) :: ρ | none => ρ
theorem lk_put {ρ : Env} {t u : Nat} {x : V} : lk ((t, x) :: ρ) u = if t = u then some x else lk ρ u := by
  rw [lk]
  by_cases h : t = u
  · simp [h]
  · have : Nat.beq t u = false := by
      cases hb : Nat.beq t u with
      | false => rfl
      | true => exact absurd (Nat.eq_of_beq_eq_true hb) h
    rw [this, if_neg h]; rfl

def ofVal : Value → Option V
  | .int k n => some (.d (.int k n))
  | .bool b => some (.d (.bool b))
  | .string s => some (.d (.str s.data.toList))
  | .slice A l c => match A, l, c with
    | none, 0, 0 => some (.fsl [])
    | _, _, _ => none
  | .agg _ => none
  | .tuple _ => none
  | .func f fs cs => match f, fs.toList, cs.toList with
    | .func f, [], [] => some (.fn (.func f) [] [])
    | _, _, _ => none
  | v => some (.d (.raw v))
def ofCells : List Value → Option (List V)
  | [] => some []
  | v :: vs => match ofVal v with
    | some x => match ofCells vs with
      | some xs => some (x :: xs)
      | none => none
    | none => none
def ofConst : Value → Option V
  | .agg cs => (ofCells cs.toList).map V.agg
  | v => ofVal v
theorem ofVal_rep {v : Value} {x : V} (h : ofVal v = some x) (G : Imm) (φ : Loc) : x.rep G φ v ∧ v.oneCell' = true := by
  cases v
  case int => injection h with h; subst h; exact ⟨rfl, rfl⟩
  case bool => injection h with h; subst h; exact ⟨rfl, rfl⟩
  case string s => injection h with h; subst h; exact ⟨by simp [V.rep, D.rep], rfl⟩
  case slice A l c =>
    unfold ofVal at h
    dsimp only at h
    split at h
    · injection h with h; subst h; exact ⟨⟨none, rfl, by simp⟩, rfl⟩
    · cases h
  case agg => cases h
  case tuple => cases h
  case func f fs cs =>
    unfold ofVal at h
    dsimp only at h
    split at h
    · rename_i h1 h2
      injection h with h; subst h
      have e1 : fs = #[] := by simpa using h1
      have e2 : cs = #[] := by simpa using h2
      subst e1; subst e2
      exact ⟨⟨[], [], rfl, rfl, rfl⟩, rfl⟩
    · cases h
  all_goals (injection h with h; subst h; exact ⟨⟨rfl, rfl⟩, rfl⟩)
theorem ofCells_rep : ∀ {vs : List Value} {xs : List V}, ofCells vs = some xs → ∀ (G : Imm) (φ : Loc), repVs G φ xs vs ∧ ∀ u ∈ vs, u.oneCell' = true
  | [], xs, h, G, φ => by simp [ofCells] at h; subst h; exact ⟨rfl, by simp⟩
  | v :: vs, xs, h, G, φ => by
    unfold ofCells at h
    split at h
    · rename_i x hx
      split at h
      · rename_i ys hys
        injection h with h; subst h
        obtain ⟨h1, h2⟩ := ofVal_rep hx G φ
        obtain ⟨h3, h4⟩ := ofCells_rep hys G φ
        exact ⟨⟨v, vs, rfl, h1, h3⟩, fun u hu => by
          rcases List.mem_cons.1 hu with rfl | hu
          · exact h2
          · exact h4 u hu⟩
      · cases h
    · cases h
theorem ofConst_rep {v : Value} {x : V} (h : ofConst v = some x) (G : Imm) (φ : Loc) : x.rep G φ v := by
  unfold ofConst at h
  split at h
  · rename_i cs
    cases hc : ofCells cs.toList with
    | none => simp [hc] at h
    | some xs =>
      simp [hc] at h; subst h
      obtain ⟨h1, h2⟩ := ofCells_rep hc G φ
      exact ⟨cs.toList, by simp, h1, h2⟩
  · exact (ofVal_rep h G φ).1
def ev (ρ : Env) : Operand → Option V
  | .tmp t => lk ρ t
  | .const v => ofConst v
  | .global _ => none
  | .func f => some (.fn (.func f) [] [])
theorem ev_rep {G : Imm} {φ : Loc} {ρ : Env} {a : Act} {o : Operand} {x : V} (h : EnvOk G φ ρ a) (k : ev ρ o = some x) : x.rep G φ (a.eval o) := by
  cases o with
  | tmp t =>
    obtain ⟨v, h1, h2⟩ := h t x k
    simpa [Act.eval, Array.getD_eq_getD_getElem?, h1] using h2
  | const v => exact ofConst_rep k G φ
  | global g => cases k
  | func f => injection k with k; subst k; exact ⟨[], [], rfl, rfl, rfl⟩
def evs (ρ : Env) : List Operand → Option (List V)
  | [] => some []
  | o :: os => match ev ρ o with
    | some x => match evs ρ os with
      | some xs => some (x :: xs)
      | none => none
    | none => none
theorem evs_rep {G : Imm} {φ : Loc} {ρ : Env} {a : Act} (h : EnvOk G φ ρ a) : ∀ {os : List Operand} {xs : List V}, evs ρ os = some xs → repVs G φ xs (os.map a.eval)
  | [], xs, k => by simp [evs] at k; subst k; rfl
  | o :: os, xs, k => by
    unfold evs at k
    split at k
    · rename_i x hx
      split at k
      · rename_i ys hys
        injection k with k; subst k
        exact ⟨a.eval o, os.map a.eval, rfl, ev_rep h hx, evs_rep h hys⟩
      · cases k
    · cases k
end Go.Proofs.Ytlafnhpmhflnaaa.Q
