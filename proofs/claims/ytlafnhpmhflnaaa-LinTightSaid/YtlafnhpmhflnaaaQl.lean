/- Calls: what a function does to pure values and to the objects that are lent to it. No condition. -/
import Derived.Test.YtlafnhpmhflnaaaQk
set_option linter.unusedVariables false
set_option linter.unusedSectionVars false
set_option linter.unnecessarySimpa false
set_option linter.unusedSimpArgs false
namespace Go.Proofs.Ytlafnhpmhflnaaa.Q
variable [Amb]

/-! ### other numbers for objects -/
mutual
def V.ren (f : Nat → Option Nat) : V → Option V
  | .d x => some (.d x)
  | .agg cs => match rens f cs with | some ys => some (.agg ys) | none => none
  | .tup cs => match rens f cs with | some ys => some (.tup ys) | none => none
  | .ptr id off => match f id with | some i => some (.ptr i off) | none => none
  | .iptr row => some (.iptr row)
  | .eptr id i off => match f id with | some j => some (.eptr j i off) | none => none
  | .fsl rows => some (.fsl rows)
  | .gsl rows t => match f t with | some i => some (.gsl rows i) | none => none
  | .vsl _ => none
  | .arr id off len => match f id with | some i => some (.arr i off len) | none => none
  | .map id => match f id with | some i => some (.map i) | none => none
  | .fn g fs cs => match rens f fs with
    | some xs => match rens f cs with
      | some ys => some (.fn g xs ys)
      | none => none
    | none => none
  | .yld id => match f id with
    | some i => some (.yld i)
    | none => none
  | .undef => some .undef
def rens (f : Nat → Option Nat) : List V → Option (List V)
  | [] => some []
  | x :: xs => match x.ren f with
    | some y => match rens f xs with
      | some ys => some (y :: ys)
      | none => none
    | none => none
end
def Moves (f : Nat → Option Nat) (φ1 φ2 : Loc) : Prop := ∀ id i, f id = some i → ∀ n z, φ1 id n = some z → φ2 i n = some z
mutual
theorem V.ren_rep {f : Nat → Option Nat} {φ1 φ2 : Loc} (hf : Moves f φ1 φ2) {G : Imm} : ∀ (x y : V) (v : Value), x.ren f = some y → x.rep G φ1 v → y.rep G φ2 v
  | .d x, y, v, h, k => by injection h with h; subst h; exact k
  | .agg cs, y, v, h, k => by
    unfold V.ren at h
    split at h
    · rename_i ys hys
      injection h with h; subst h
      obtain ⟨us, e, h1, h2⟩ := k
      exact ⟨us, e, rens_rep hf cs ys us hys h1, h2⟩
    · cases h
  | .tup cs, y, v, h, k => by
    unfold V.ren at h
    split at h
    · rename_i ys hys
      injection h with h; subst h
      obtain ⟨us, e, h1⟩ := k
      exact ⟨us, e, rens_rep hf cs ys us hys h1⟩
    · cases h
  | .ptr id off, y, v, h, k => by
    unfold V.ren at h
    split at h
    · rename_i i hi
      injection h with h; subst h
      obtain ⟨b, c, h1, h2⟩ := k
      exact ⟨b, c, hf id i hi _ _ h1, h2⟩
    · cases h
  | .iptr row, y, v, h, k => by injection h with h; subst h; exact k
  | .eptr id j off, y, v, h, k => by
    unfold V.ren at h
    split at h
    · rename_i i hi
      injection h with h; subst h
      obtain ⟨b, c, h1, h2⟩ := k
      exact ⟨b, c, hf id i hi _ _ h1, h2⟩
    · cases h
  | .fsl rows, y, v, h, k => by injection h with h; subst h; exact k
  | .gsl rows t, y, v, h, k => by
    unfold V.ren at h
    split at h
    · rename_i i hi
      injection h with h; subst h
      obtain ⟨A, c, h1, h2⟩ := k
      exact ⟨A, c, hf t i hi _ _ h1, h2⟩
    · cases h
  | .vsl rows, y, v, h, k => by unfold V.ren at h; cases h
  | .arr id off len, y, v, h, k => by
    unfold V.ren at h
    split at h
    · rename_i i hi
      injection h with h; subst h
      obtain ⟨b, c, h1, h2⟩ := k
      exact ⟨b, c, hf id i hi _ _ h1, h2⟩
    · cases h
  | .map id, y, v, h, k => by
    unfold V.ren at h
    split at h
    · rename_i i hi
      injection h with h; subst h
      obtain ⟨b, c, h1, h2⟩ := k
      exact ⟨b, c, hf id i hi _ _ h1, h2⟩
    · cases h
  | .fn g fs cs, y, v, h, k => by
    unfold V.ren at h
    split at h
    · rename_i xs hxs
      split at h
      · rename_i ys hys
        injection h with h; subst h
        obtain ⟨us, vs, e, h1, h2⟩ := k
        exact ⟨us, vs, e, rens_rep hf fs xs us hxs h1, rens_rep hf cs ys vs hys h2⟩
      · cases h
    · cases h
  | .yld id, y, v, h, k => by
    unfold V.ren at h
    split at h
    · rename_i i hi
      injection h with h; subst h
      obtain ⟨b, c, h1, h2⟩ := k
      exact ⟨b, c, hf id i hi _ _ h1, h2⟩
    · cases h
  | .undef, y, v, h, k => by injection h with h; subst h; exact k
theorem rens_rep {f : Nat → Option Nat} {φ1 φ2 : Loc} (hf : Moves f φ1 φ2) {G : Imm} : ∀ (xs ys : List V) (us : List Value), rens f xs = some ys → repVs G φ1 xs us → repVs G φ2 ys us
  | [], ys, us, h, k => by injection h with h; subst h; exact k
  | x :: xs, ys, us, h, k => by
    unfold rens at h
    split at h
    · rename_i y hy
      split at h
      · rename_i zs hzs
        injection h with h; subst h
        obtain ⟨u, us', e, h1, h2⟩ := k
        exact ⟨u, us', e, x.ren_rep hf y u hy h1, rens_rep hf xs zs us' hzs h2⟩
      · cases h
    · cases h
end
def Ob.ren (f : Nat → Option Nat) : Ob → Option Ob
  | .box cells => match rens f cells with | some ys => some (.box ys) | none => none
  | .tip e n => some (.tip e n)
  | .parr e rows => some (.parr e rows)
  | .hist xs => some (.hist xs)
  | .dead => some .dead
theorem Ob.ren_holds {f : Nat → Option Nat} {φ1 φ2 : Loc} (hf : Moves f φ1 φ2) {G : Imm} {w : World} {id i : Nat} (hi : ∀ n, φ2 i n = φ1 id n) {ob ob' : Ob} (h : ob.ren f = some ob') (k : Holds G w φ1 id ob) : Holds G w φ2 i ob' := by
  cases ob with
  | box cells =>
    unfold Ob.ren at h
    dsimp only at h
    split at h
    · rename_i ys hys
      injection h with h; subst h
      obtain ⟨b, c, T, us, h1, h2, h3, h4, h5⟩ := k
      exact ⟨b, c, T, us, by rw [hi]; exact h1, h2, rens_rep hf _ _ _ hys h3, h4, h5⟩
    · cases h
  | tip e n =>
    injection h with h; subst h
    obtain ⟨A, c, h1, h2, h3, h4⟩ := k
    exact ⟨A, c, by rw [hi]; exact h1, h2, fun m hm => by rw [hi]; exact h3 m hm, h4⟩
  | parr e rows =>
    injection h with h; subst h
    obtain ⟨b, T, us, h1, h2⟩ := k
    exact ⟨b, T, us, by rw [hi]; exact h1, h2⟩
  | hist xs =>
    injection h with h; subst h
    obtain ⟨⟨c, h1⟩, h2⟩ := k
    refine ⟨⟨c, by rw [hi]; exact h1⟩, ?_⟩
    have e : (fun b => (φ2 i (b + 1)).isSome = true) = (fun b => (φ1 id (b + 1)).isSome = true) := by funext b; rw [hi]
    rw [e]; exact h2
  | dead => injection h with h; subst h; trivial
theorem Ob.ren_own {f : Nat → Option Nat} {φ1 φ2 : Loc} {id i : Nat} (hi : ∀ n, φ2 i n = φ1 id n) {ob ob' : Ob} (h : ob.ren f = some ob') : Owns φ2 i ob' = Owns φ1 id ob := by
  funext b
  cases ob with
  | box cells =>
    unfold Ob.ren at h
    dsimp only at h
    split at h
    · injection h with h; subst h; simp only [Owns, own, hi]
    · cases h
  | tip e n => injection h with h; subst h; simp only [Owns, own, hi]
  | parr e rows => injection h with h; subst h; simp only [Owns, own, hi]
  | hist xs => injection h with h; subst h; simp only [Owns, hi]
  | dead => injection h with h; subst h; rfl

/-! ### what is handed on -/
mutual
/-- Handed on, or handed back: without the room behind slices. -/
def V.plain : V → V
  | .fsl rows => .d (.sl rows)
  | .gsl rows _ => .d (.sl rows)
  | .agg cs => .agg (plains cs)
  | .tup cs => .tup (plains cs)
  | .d x => .d x
  | .ptr i o => .ptr i o
  | .iptr r => .iptr r
  | .eptr i j o => .eptr i j o
  | .vsl r => .vsl r
  | .arr i o l => .arr i o l
  | .map i => .map i
  | .fn f a b => .fn f a b
  | .yld id => .yld id
  | .undef => .undef
def plains : List V → List V
  | [] => []
  | x :: xs => x.plain :: plains xs
end
mutual
theorem V.plain_rep {G : Imm} {φ : Loc} : ∀ (x : V) (v : Value), x.rep G φ v → x.plain.rep G φ v
  | .fsl rows, v, ⟨A, e, h⟩ => ⟨Addr0 A, _, e, Nat.le_refl _, a0 h⟩
  | .gsl rows t, v, ⟨A, c, _, e, h1, h2⟩ => ⟨Addr0 A, c, e, h1, a0 h2⟩
  | .agg cs, v, ⟨us, e, h1, h2⟩ => ⟨us, e, plains_rep cs us h1, h2⟩
  | .tup cs, v, ⟨us, e, h1⟩ => ⟨us, e, plains_rep cs us h1⟩
  | .d x, v, h => h
  | .ptr i o, v, h => h
  | .iptr r, v, h => h
  | .eptr i j o, v, h => h
  | .vsl r, v, h => h
  | .arr i o l, v, h => h
  | .map i, v, h => h
  | .fn f a b, v, h => h
  | .yld id, v, h => h
  | .undef, v, h => h
theorem plains_rep {G : Imm} {φ : Loc} : ∀ (xs : List V) (us : List Value), repVs G φ xs us → repVs G φ (plains xs) us
  | [], us, h => h
  | x :: xs, us, ⟨u, us', e, h1, h2⟩ => ⟨u, us', e, x.plain_rep u h1, plains_rep xs us' h2⟩
end
mutual
def V.ids : V → List Nat
  | .ptr i _ => [i]
  | .eptr i _ _ => [i]
  | .gsl _ t => [t]
  | .arr i _ _ => [i]
  | .map i => [i]
  | .agg cs => idsL cs
  | .tup cs => idsL cs
  | .fn _ a b => idsL a ++ idsL b
  | .d _ => []
  | .iptr _ => []
  | .fsl _ => []
  | .vsl _ => []
  | .yld id => [id]
  | .undef => []
def idsL : List V → List Nat
  | [] => []
  | x :: xs => x.ids ++ idsL xs
end
def Ob.ids : Ob → List Nat
  | .box cells => idsL cells
  | _ => []
def memB (i : Nat) : List Nat → Bool
  | [] => false
  | j :: r => bif Nat.beq i j then true else memB i r
/-- All that can be come to from some objects, in the order in which one comes to it. -/
def reach (H : List Ob) : Nat → List Nat → List Nat → List Nat
  | 0, _, acc => acc
  | _ + 1, [], acc => acc
  | n + 1, i :: todo, acc => bif memB i acc then reach H n todo acc else
    reach H n ((match H[i]? with | some ob => ob.ids | none => []) ++ todo) (acc ++ [i])
def pos (ids : List Nat) (i : Nat) : Option Nat := match ids with
  | [] => none
  | j :: r => bif Nat.beq j i then some 0 else match pos r i with
    | some k => some (k + 1)
    | none => none
theorem pos_get : ∀ {ids : List Nat} {i k : Nat}, pos ids i = some k → ids[k]? = some i
  | [], _, _, h => by cases h
  | j :: r, i, k, h => by
    unfold pos at h
    cases hb : Nat.beq j i with
    | true =>
      rw [hb] at h
      injection h with h
      subst h
      rw [Nat.eq_of_beq_eq_true hb]; rfl
    | false =>
      rw [hb] at h
      dsimp only [cond] at h
      split at h
      · rename_i k' hk
        injection h with h; subst h
        simpa using pos_get hk
      · cases h
theorem pos_none : ∀ {ids : List Nat} {i : Nat}, pos ids i = none → i ∉ ids
  | [], _, _ => by simp
  | j :: r, i, h => by
    unfold pos at h
    cases hb : Nat.beq j i with
    | true => rw [hb] at h; cases h
    | false =>
      rw [hb] at h
      dsimp only [cond] at h
      split at h
      · cases h
      · rename_i hk
        have hne : i ≠ j := fun e => by rw [e] at hb; simp at hb
        intro hm
        rcases List.mem_cons.1 hm with h1 | h1
        · exact hne h1
        · exact pos_none hk h1
def nodupB : List Nat → Bool
  | [] => true
  | i :: r => !memB i r && nodupB r
theorem memB_iff {i : Nat} : ∀ {l : List Nat}, memB i l = true ↔ i ∈ l
  | [] => by simp [memB]
  | j :: r => by
    unfold memB
    cases hb : Nat.beq i j with
    | true => simp [Nat.eq_of_beq_eq_true hb]
    | false =>
      have hne : i ≠ j := fun e => by rw [e] at hb; simp at hb
      simp only [cond]
      rw [memB_iff (l := r)]
      simp [hne]
theorem nodupB_spec : ∀ {l : List Nat}, nodupB l = true → l.Nodup
  | [], _ => List.nodup_nil
  | i :: r, h => by
    simp only [nodupB, Bool.and_eq_true, Bool.not_eq_true'] at h
    refine List.nodup_cons.2 ⟨fun hm => ?_, nodupB_spec h.2⟩
    rw [memB_iff.2 hm] at h; cases h.1
def obsAt (H : List Ob) (f : Nat → Option Nat) : List Nat → Option (List Ob)
  | [] => some []
  | i :: r => match H[i]? with
    | some ob => match ob.ren f with
      | some ob' => match obsAt H f r with
        | some obs => some (ob' :: obs)
        | none => none
      | none => none
    | none => none
theorem obsAt_get {H : List Ob} {f : Nat → Option Nat} : ∀ {ids : List Nat} {h : List Ob}, obsAt H f ids = some h → h.length = ids.length ∧ ∀ (k i : Nat), ids[k]? = some i → ∃ ob ob', H[i]? = some ob ∧ ob.ren f = some ob' ∧ h[k]? = some ob'
  | [], h, e => by injection e with e; subst e; exact ⟨rfl, by simp⟩
  | j :: r, h, e => by
    unfold obsAt at e
    split at e
    · rename_i ob hob
      split at e
      · rename_i ob' hob'
        split at e
        · rename_i obs hobs
          injection e with e; subst e
          obtain ⟨g1, g2⟩ := obsAt_get hobs
          refine ⟨by simp [g1], fun k i hk => ?_⟩
          cases k with
          | zero => simp at hk; subst hk; exact ⟨ob, ob', hob, hob', rfl⟩
          | succ k => simpa using g2 k i (by simpa using hk)
        · cases e
      · cases e
    · cases e

/-! ### contracts -/
/-- What a call does: its result and the objects that were lent, with those that are new behind them. -/
def PCalls (P : Program) (f : FuncId) (args : List V) (h : List Ob) (R : V → List Ob → Prop) : Prop :=
  (∃ fn, P.funcs[f]? = some fn ∧ (fn.name == "runtime.NumGoroutine") = false ∧ fn.body.isNone = false) ∧
  ∀ (G : Imm) (w : World) (φ : Loc) (vs : List Value), Sit G w φ (hp h) → repVs G φ args vs →
    Calls P f vs.toArray w fun e w' => ∃ v r h' G' φ', e = .returned v ∧ R r h' ∧ h.length ≤ h'.length ∧ Sit G' w' φ' (hp h') ∧ Goes G w φ (hp h) G' w' φ' (hp h') ∧ r.rep G' φ' v
/-- One result. -/
def PFun (P : Program) (f : FuncId) (args : List V) (h : List Ob) (r : V) (h' : List Ob) : Prop := PCalls P f args h fun r' h'' => r' = r ∧ h'' = h'
theorem PCalls.mono {P : Program} {f : FuncId} {args : List V} {h : List Ob} {R R' : V → List Ob → Prop} (c : PCalls P f args h R) (k : ∀ r h', R r h' → R' r h') : PCalls P f args h R' :=
  ⟨c.1, fun G w φ vs hs hr => (c.2 G w φ vs hs hr).mono fun e w' ⟨v, r, h', G', φ', h1, h2, h3⟩ => ⟨v, r, h', G', φ', h1, k _ _ h2, h3⟩⟩
theorem PFun.call {P : Program} {f : FuncId} {args : List V} {h : List Ob} {r : V} {h' : List Ob} {R : V → List Ob → Prop} (c : PFun P f args h r h') (k : R r h') : PCalls P f args h R :=
  PCalls.mono c fun r' h'' ⟨e1, e2⟩ => by rw [e1, e2]; exact k

/-- The numbers on the way back. -/
def back (ids : List Nat) (base : Nat) (i : Nat) : Option Nat := match ids[i]? with
  | some j => some j
  | none => some (base + (i - ids.length))
def obsRen (f : Nat → Option Nat) : List Ob → Option (List Ob)
  | [] => some []
  | ob :: r => match ob.ren f with
    | some ob' => match obsRen f r with
      | some obs => some (ob' :: obs)
      | none => none
    | none => none
theorem obsRen_get {f : Nat → Option Nat} : ∀ {obs obs' : List Ob}, obsRen f obs = some obs' → obs'.length = obs.length ∧ ∀ (k : Nat) ob, obs[k]? = some ob → ∃ ob', ob.ren f = some ob' ∧ obs'[k]? = some ob'
  | [], obs', e => by injection e with e; subst e; exact ⟨rfl, by simp⟩
  | ob :: r, obs', e => by
    unfold obsRen at e
    split at e
    · rename_i ob' hob'
      split at e
      · rename_i obs hobs
        injection e with e; subst e
        obtain ⟨g1, g2⟩ := obsRen_get hobs
        refine ⟨by simp [g1], fun k i hk => ?_⟩
        cases k with
        | zero => simp at hk; subst hk; exact ⟨ob', hob', rfl⟩
        | succ k => simpa using g2 k i (by simpa using hk)
      · cases e
    · cases e
/-- What the caller sees of a call's end. -/
def backE (ids : List Nat) (base : Nat) (r : V) (h' : List Ob) (K : Eff → Prop) : Prop :=
  match r.ren (back ids base), obsRen (back ids base) h' with
  | some x, some obs => condP (Nat.ble ids.length obs.length) (K ⟨x, [], ids.zip obs, obs.drop ids.length⟩)
  | _, _ => False
def lendE (H : List Ob) (xs : List V) (K : List Nat → List V → List Ob → Prop) : Prop :=
  match reach H 1000 (idsL xs) [] with
  | ids => match rens (pos ids) xs, obsAt H (pos ids) ids with
    | some ys, some h => condP (nodupB ids) (K ids ys h)
    | _, _ => False
end Go.Proofs.Ytlafnhpmhflnaaa.Q
