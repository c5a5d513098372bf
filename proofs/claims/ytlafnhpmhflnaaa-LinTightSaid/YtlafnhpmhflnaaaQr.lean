/- Code over pure states: a logic of its own, and that it is right. No condition. -/
import Derived.Test.YtlafnhpmhflnaaaQq
import Derived.ScopeJumps
set_option linter.unusedVariables false
set_option linter.unusedSectionVars false
set_option linter.unnecessarySimpa false
set_option linter.unusedSimpArgs false
namespace Go.Proofs.Ytlafnhpmhflnaaa.Q
variable [Amb]

/-- How a piece of code may be left. -/
inductive PX where
  | normal
  | exit (id : Nat)
  | goto (l : Nat)
  | ret
def PX.to : PX → Exit
  | .normal => .normal
  | .exit id => .exit id
  | .goto l => .goto l
  | .ret => .ret
abbrev Post := PX → Env → List Ob → Prop
/-- How many objects were lent; in a round of a range over a function: that one's record. -/
structure Md where
  k : Nat
  r : Option Nat
instance (k : Nat) : OfNat Md k := ⟨⟨k, none⟩⟩
/-- The marks that ranges over functions have left: new blocks that nobody owns, each empty. -/
def Mk (base : Nat) (w : World) (φ : Loc) (H : Hp) : List Deferred → Prop
  | [] => True
  | d :: ds => (d ∉ ds ∧ ∃ D, d = { target := .collected D, args := #[] } ∧ base ≤ D ∧ w.heap[D]? = some (.deferred (some [])) ∧ ¬ ownS φ H D) ∧ Mk base w φ H ds
theorem Mk.goes {base : Nat} {G G' : Imm} {w w' : World} {φ φ' : Loc} {H H' : Hp} (hg : Goes G w φ H G' w' φ' H') : ∀ {ds : List Deferred}, Mk base w φ H ds → Mk base w' φ' H' ds
  | [], _ => trivial
  | d :: ds, ⟨⟨h0, D, h1, h2, h3, h4⟩, h5⟩ => by
    have hlt := (Array.getElem?_eq_some_iff.1 h3).1
    refine ⟨⟨h0, D, h1, h2, (hg.block D hlt h4).1.trans h3, fun ho => ?_⟩, Mk.goes hg h5⟩
    rcases hg.owns D ho with h | h
    · exact h4 h
    · omega
theorem Mk.owns {base : Nat} {w : World} {φ φ' : Loc} {H H' : Hp} (hg : ∀ b, ownS φ' H' b → ownS φ H b) : ∀ {ds : List Deferred}, Mk base w φ H ds → Mk base w φ' H' ds
  | [], _ => trivial
  | d :: ds, ⟨⟨h0, D, h1, h2, h3, h4⟩, h5⟩ => ⟨⟨h0, D, h1, h2, h3, fun ho => h4 (hg D ho)⟩, Mk.owns hg h5⟩
/-- What was left as it was since the function's start; the marks. -/
structure GoM (G0 : Imm) (w0 : World) (φ0 : Loc) (H0 : Hp) (G : Imm) (w : World) (φ : Loc) (H : Hp) (a : Act) : Prop where
  go : Goes G0 w0 φ0 H0 G w φ H
  mks : Mk w0.heap.size w φ H a.defers
theorem GoM.trans {G0 : Imm} {w0 : World} {φ0 : Loc} {H0 : Hp} {G : Imm} {w : World} {φ : Loc} {H : Hp} {a : Act} {G' : Imm} {w' : World} {φ' : Loc} {H' : Hp} {a' : Act} (h : GoM G0 w0 φ0 H0 G w φ H a) (k : Goes G w φ H G' w' φ' H') (hd : a'.defers = a.defers) : GoM G0 w0 φ0 H0 G' w' φ' H' a' :=
  ⟨h.go.trans k, by rw [hd]; exact h.mks.goes k⟩
/-- From this state the code comes to such as Q says (n: the frame's slots; k: so many objects were lent). -/
def SWp (P : Program) (n : Nat) (k : Md) (c : Code) (ρ : Env) (H : List Ob) (Q : Post) : Prop :=
  ∀ (G0 : Imm) (w0 : World) (φ0 : Loc) (H0 : Hp) (G : Imm) (w : World) (φ : Loc) (a : Act) (Qc : Exit → Act → World → Prop), (∀ i, k.k ≤ i → ∀ m, φ0 i m = none) → Rep n G w φ ρ H a → GoM G0 w0 φ0 H0 G w φ (hp H) a →
    (∀ pe ρ' H' G' w' φ' a', Q pe ρ' H' → Rep n G' w' φ' ρ' H' a' → GoM G0 w0 φ0 H0 G' w' φ' (hp H') a' → Qc pe.to a' w') → c.wpIn (Fr k.r) 0 P Qc a w
/-- The facts about a program that the logic goes by. -/
structure POk (P : Program) (tt : TT) : Prop where
  tt : TTok P tt
  mixed : P.follows .mixedOrders = true

section
variable {P : Program} {tt : TT} {n : Nat} {k : Md} {ρ : Env} {H : List Ob} {Q : Post}
theorem SWp.mono {c : Code} {Q' : Post} (h : SWp P n k c ρ H Q) (hk : ∀ pe ρ' H', Q pe ρ' H' → Q' pe ρ' H') : SWp P n k c ρ H Q' :=
  fun G0 w0 φ0 H0 G w φ a Qc h0 hr hg hQ => h G0 w0 φ0 H0 G w φ a Qc h0 hr hg fun pe ρ' H' G' w' φ' a' hq => hQ pe ρ' H' G' w' φ' a' (hk pe ρ' H' hq)
def seqK (next : Env → List Ob → Prop) (Q : Post) : Post := fun pe ρ H => match pe with
  | .normal => next ρ H
  | pe => Q pe ρ H
theorem SWp.seq {x y : Code} (h : SWp P n k x ρ H (seqK (fun ρ' H' => SWp P n k y ρ' H' Q) Q)) : SWp P n k (.seq x y) ρ H Q := by
  intro G0 w0 φ0 H0 G w φ a Qc h0 hr hg hQ
  refine wpIn_seq (h G0 w0 φ0 H0 G w φ a _ h0 hr hg fun pe ρ' H' G' w' φ' a' hq hr' hg' => ?_)
  cases pe with
  | normal => exact hq G0 w0 φ0 H0 G' w' φ' a' Qc h0 hr' hg' hQ
  | exit id => exact hQ _ ρ' H' G' w' φ' a' hq hr' hg'
  | goto l => exact hQ _ ρ' H' G' w' φ' a' hq hr' hg'
  | ret => exact hQ _ ρ' H' G' w' φ' a' hq hr' hg'
theorem SWp.skip (h : Q .normal ρ H) : SWp P n k .skip ρ H Q := fun G0 w0 φ0 H0 G w φ a Qc h0 hr hg hQ => wpIn_skip (hQ .normal ρ H G w φ a h hr hg)
theorem SWp.label {l : Nat} (h : Q .normal ρ H) : SWp P n k (.label l) ρ H Q := fun G0 w0 φ0 H0 G w φ a Qc h0 hr hg hQ => wpIn_label (hQ .normal ρ H G w φ a h hr hg)
theorem SWp.exit {id : Nat} (h : Q (.exit id) ρ H) : SWp P n k (.exit id) ρ H Q := fun G0 w0 φ0 H0 G w φ a Qc h0 hr hg hQ => wpIn_exit (hQ (.exit id) ρ H G w φ a h hr hg)
theorem SWp.goto {l : Nat} (h : Q (.goto l) ρ H) : SWp P n k (.goto l) ρ H Q := fun G0 w0 φ0 H0 G w φ a Qc h0 hr hg hQ => wpIn_goto (hQ (.goto l) ρ H G w φ a h hr hg)
theorem SWp.ret (h : Q .ret ρ H) : SWp P n k .ret ρ H Q := fun G0 w0 φ0 H0 G w φ a Qc h0 hr hg hQ => wpIn_ret (hQ .ret ρ H G w φ a h hr hg)
def condC (ρ : Env) (c : Operand) (A B : Prop) : Prop := match ev ρ c with
  | some (.d (.bool b)) => brP b A B
  | _ => False
theorem SWp.cond {c : Operand} {x y : Code} (h : condC ρ c (SWp P n k x ρ H Q) (SWp P n k y ρ H Q)) : SWp P n k (.cond c x y) ρ H Q := by
  intro G0 w0 φ0 H0 G w φ a Qc h0 hr hg hQ
  unfold condC at h
  split at h
  · rename_i b hb
    have hc : a.eval c = .bool b := ev_rep hr.env hb
    refine wpIn_cond hc ?_
    cases b with
    | true => exact h G0 w0 φ0 H0 G w φ a Qc h0 hr hg hQ
    | false => exact h G0 w0 φ0 H0 G w φ a Qc h0 hr hg hQ
  · exact h.elim
def blkK (id : Nat) (Q : Post) : Post := fun pe ρ H => match pe with
  | .exit i => bif Nat.beq i id then Q .normal ρ H else Q (.exit i) ρ H
  | pe => Q pe ρ H
theorem SWp.block {id : Nat} {c : Code} (h : SWp P n k c ρ H (blkK id Q)) : SWp P n k (.block id c) ρ H Q := by
  intro G0 w0 φ0 H0 G w φ a Qc h0 hr hg hQ
  refine wpIn_block (h G0 w0 φ0 H0 G w φ a _ h0 hr hg fun pe ρ' H' G' w' φ' a' hq hr' hg' => ?_)
  cases pe with
  | normal => exact hQ _ ρ' H' G' w' φ' a' hq hr' hg'
  | exit i =>
    simp only [PX.to, Exit.inBlock]
    simp only [blkK] at hq
    by_cases hi : i = id
    · subst hi
      rw [if_pos rfl]
      have : Nat.beq i i = true := by simp
      rw [this] at hq
      exact hQ .normal ρ' H' G' w' φ' a' hq hr' hg'
    · rw [if_neg hi]
      have : Nat.beq i id = false := by
        cases hb : Nat.beq i id with
        | false => rfl
        | true => exact absurd (Nat.eq_of_beq_eq_true hb) hi
      rw [this] at hq
      exact hQ (.exit i) ρ' H' G' w' φ' a' hq hr' hg'
  | goto l => exact hQ _ ρ' H' G' w' φ' a' hq hr' hg'
  | ret => exact hQ _ ρ' H' G' w' φ' a' hq hr' hg'
theorem SWp.region {id : Nat} {ops : Array Oper} (hP : POk P tt) (h : pops P tt n ops.toList ops.toList ρ H (Q .normal)) : SWp P n k (.region id ops false) ρ H Q := by
  intro G0 w0 φ0 H0 G w φ a Qc h0 hr hg hQ
  refine wpIn_region_list ?_
  have := pops_sem hP.tt k.r (Q := Qc) ops.toList ρ H h G w φ (hp H) G w φ a hr (Goes.refl _ _ _ _) fun ρ' H' G' w' φ' a' hq hr' hg' hd' => hQ .normal ρ' H' G' w' φ' a' hq hr' (hg.trans hg' hd')
  simpa using this
/-- No operation of the region is a defer statement. -/
def noDefer : List Oper → Bool
  | [] => true
  | o :: r => (match o.op with | .defer _ => false | _ => true) && noDefer r
theorem noDefer_get : ∀ {l : List Oper}, noDefer l = true → ∀ (i : Nat) o, l[i]? = some o → ∀ c, o.op ≠ .defer c
  | [], _, i, o, ho, c => by simp at ho
  | p :: r, h, 0, o, ho, c => by
    simp at ho; subst ho
    unfold noDefer at h
    intro hc
    rw [hc] at h
    simp at h
  | p :: r, h, i + 1, o, ho, c => by
    unfold noDefer at h
    simp only [Bool.and_eq_true] at h
    exact noDefer_get h.2 i o (by simpa using ho) c
theorem SWp.regionAny {id : Nat} {ops : Array Oper} (hP : POk P tt) (hB : slotsB ops.toList = true) (hD : noDefer ops.toList = true) (h : pd P tt n ops.toList ops.toList 0 ρ H [] (Q .normal)) : SWp P n k (.region id ops true) ρ H Q := by
  intro G0 w0 φ0 H0 G w φ a Qc h0 hr hg hQ
  obtain ⟨S, s1, s2, s3, _, s5, s6⟩ := pd_plan hP.tt ops.toList 0 ρ H [] h
  simp only [Nat.zero_add] at s3 s5 s6
  refine wpIn_region_any hP.mixed ?_
  have hsz : (Array.replicate ops.size false).size = ops.toList.length := by simp
  have hfalse : ∀ k, k < ops.toList.length → (Array.replicate ops.size false).getD k true = false := by
    intro k hk
    have : k < ops.size := by simpa using hk
    simp [Array.getD_eq_getD_getElem?, this]
  have hcnt : ∀ m, m ≤ ops.toList.length → cnt (fun k => (Array.replicate ops.size false).getD k true) m = m := by
    intro m
    induction m with
    | zero => intro _; rfl
    | succ m ih =>
      intro hm
      simp only [cnt, ih (by omega), hfalse m (by omega)]
      simp
  have hcur : ∀ {α : Type} (init : Nat → α) (wr : Nat → Nat → Option α) (l : Nat), cur init wr (fun k => (Array.replicate ops.size false).getD k true) ops.toList.length l = init l := by
    intro α init wr l
    refine cur_from (j := 0) (Nat.zero_le _) fun k _ hk h0 => ?_
    simp only [hfalse k hk] at h0; cases h0
  have hd := Goes.drew G w φ (hp H)
  have := any_sem (P := P) (n := n) (ops := ops.toList) (S := S) s3 s5 hB (r := k.r) (noDefer_get hD) (Q := Qc) (G0 := G) (w0 := w) (φ0 := φ) (H0 := hp H) (df := a.defers)
    (fun G' w' φ' a' hr' hd' hg' => hQ .normal _ _ G' w' φ' a' s6 hr' (hg.trans hg' hd')) ops.size (Array.replicate ops.size false) a G w.drew φ hsz (by rw [hcnt _ (Nat.le_refl _)]; simp)
    (fun j o ho h1 => by
      have hj := lt_of_get ho
      rw [hfalse j hj] at h1; cases h1)
    (by
      have : curH ops.toList S (fun k => (Array.replicate ops.size false).getD k true) = hp H := by
        funext i
        exact (hcur _ _ i).trans (by rw [s2])
      rw [this]; exact hr.sit.drew)
    (fun t x hx => hr.env t x (by
      have h1 := (hcur (fun t => lk (S 0).ρ t) (wrR ops.toList S) t).symm.trans hx
      rw [← s1]; exact h1)) rfl hr.size
    (by
      have : curH ops.toList S (fun k => (Array.replicate ops.size false).getD k true) = hp H := by
        funext i
        exact (hcur _ _ i).trans (by rw [s2])
      rw [this]; exact hd)
  simpa using this

/-! ### less is known -/
def Sub (f : Nat → Option Nat) (ρ : Env) : Env → Prop
  | [] => True
  | (t, x0) :: r => (match lk ρ t with | some x => x.ren f = some x0 | none => False) ∧ Sub f ρ r
def Sub0 (ρ : Env) : Env → Prop
  | [] => True
  | (t, x0) :: r => lk ρ t = some x0 ∧ Sub0 ρ r
/-- The first state says no more than the second: fewer slots; of the objects those of these numbers (the k that were lent among them, as they were). -/
def Le (k : Md) (ρ0 : Env) (H0 : List Ob) (ρ : Env) (H : List Ob) : Prop := (Sub0 ρ ρ0 ∧ H = H0) ∨ ∃ ids, (nodupB ids = true ∧ ids.take k.k = List.range k.k) ∧ obsAt H (pos ids) ids = some H0 ∧ Sub (pos ids) ρ ρ0
theorem Le.same {ρ0 : Env} (h : Sub0 ρ ρ0) : Le k ρ0 H ρ H := .inl ⟨h, rfl⟩
theorem sub0_lk {ρ0 : Env} (h : Sub0 ρ ρ0) : ∀ t x, lk ρ0 t = some x → lk ρ t = some x := by
  induction ρ0 with
  | nil => intro t x hx; cases hx
  | cons p r ih =>
    obtain ⟨k, y⟩ := p
    intro t x hx
    rw [lk_put] at hx
    split at hx
    · rename_i hk; injection hx with hx; subst hx; subst hk; exact h.1
    · exact ih h.2 t x hx
theorem sub_lk {f : Nat → Option Nat} {ρ0 : Env} (h : Sub f ρ ρ0) : ∀ t x, lk ρ0 t = some x → ∃ y, lk ρ t = some y ∧ y.ren f = some x := by
  induction ρ0 with
  | nil => intro t x hx; cases hx
  | cons p r ih =>
    obtain ⟨k, y⟩ := p
    intro t x hx
    rw [lk_put] at hx
    split at hx
    · rename_i hk
      injection hx with hx; subst hx; subst hk
      have := h.1
      split at this
      · rename_i z hz; exact ⟨z, hz, this⟩
      · exact this.elim
    · exact ih h.2 t x hx
theorem Rep.less {ρ0 : Env} {H0 : List Ob} {G : Imm} {w : World} {φ : Loc} {a : Act} {G1 : Imm} {w1 : World} {φ1 : Loc} {H1 : Hp} (hk : ∀ i, k.k ≤ i → ∀ m, φ1 i m = none) (hr : Rep n G w φ ρ H a) (hg : GoM G1 w1 φ1 H1 G w φ (hp H) a) (h : Le k ρ0 H0 ρ H) :
    ∃ φ', Rep n G w φ' ρ0 H0 a ∧ GoM G1 w1 φ1 H1 G w φ' (hp H0) a := by
  rcases h with ⟨h1, rfl⟩ | ⟨ids, ⟨h1, hk1⟩, h2, h3⟩
  · exact ⟨φ, ⟨hr.sit, fun t x hx => hr.env t x (sub0_lk h1 t x hx), hr.size⟩, hg⟩
  · have hnd := nodupB_spec h1
    have hls := lent_sit hr.sit hnd (fun i _ => rfl) h2
    obtain ⟨hl, hget⟩ := obsAt_get h2
    have hown : ∀ b, ownS (lentLoc φ ids) (hp H0) b → ownS φ (hp H) b := fun b hb => by
      obtain ⟨i, ob, hi, ho⟩ := hb
      have hil := lt_of_get hi
      have e1 : ids[i]? = some ids[i] := List.getElem?_eq_getElem (by omega)
      obtain ⟨ob0, ob', g1, g2, g3⟩ := hget i _ e1
      have hi' : H0[i]? = some ob := hi
      rw [hi'] at g3; injection g3 with g3; subst g3
      refine ⟨ids[i], ob0, g1, ?_⟩
      rw [← Ob.ren_own (φ2 := lentLoc φ ids) (i := i) (fun m => by unfold lentLoc; rw [e1]) g2]
      exact ho
    refine ⟨lentLoc φ ids, ⟨hls, fun t x hx => ?_, hr.size⟩, ⟨⟨hg.go.le, fun i m z hz => ?_, hg.go.os, hg.go.tape, hg.go.output, hg.go.size, hg.go.block, fun b hb => hg.go.owns b (hown b hb)⟩, hg.mks.owns hown⟩⟩
    · obtain ⟨y, hy, hyx⟩ := sub_lk h3 t x hx
      obtain ⟨v, v1, v2⟩ := hr.env t y hy
      exact ⟨v, v1, V.ren_rep (lent_moves φ ids) _ _ _ hyx v2⟩
    · have hi : i < k.k := by
        rcases Nat.lt_or_ge i k.k with h | h
        · exact h
        · rw [hk i h m] at hz; cases hz
      have e1 : ids[i]? = some i := by
        have : (ids.take k.k)[i]? = (List.range k.k)[i]? := by rw [hk1]
        rw [List.getElem?_take, if_pos hi, List.getElem?_range hi] at this
        exact this
      unfold lentLoc
      rw [e1]
      exact hg.go.ple i m z hz
theorem SWp.weaken {c : Code} {ρ0 : Env} {H0 : List Ob} (h : SWp P n k c ρ0 H0 Q) (hle : Le k ρ0 H0 ρ H) : SWp P n k c ρ H Q := by
  intro G1 w1 φ1 H1 G w φ a Qc h0 hr hg hQ
  obtain ⟨φ', hr', hg'⟩ := hr.less h0 hg hle
  exact h G1 w1 φ1 H1 G w φ' a Qc h0 hr' hg' hQ
/-- A loop: what holds at every round's head, and what every round makes smaller. -/
theorem SWp.loop {α : Type} {c : Code} (I : α → Prop) (st : α → Env × List Ob) (μ : α → Nat) (x0 : α) (h0 : I x0) (hle : Le k (st x0).1 (st x0).2 ρ H)
    (round : ∀ x, I x → SWp P n k c (st x).1 (st x).2 (seqK (fun ρ' H' => ∃ y, I y ∧ μ y < μ x ∧ Le k (st y).1 (st y).2 ρ' H') Q)) : SWp P n k (.loop c) ρ H Q := by
  intro G1 w1 φ1 H1 G w φ a Qc hk hr hg hQ b kk cs hro hb hrm
  have key : ∀ (m : Nat) (a : Act) (w : World), (∃ x G φ, I x ∧ μ x = m ∧ Rep n G w φ (st x).1 (st x).2 a ∧ GoM G1 w1 φ1 H1 G w φ (hp (st x).2) a) →
      ∃ e a' w', Qc e a' w' ∧ ArrivesIn (Machine.fenced P (Fr k.r)) P (lone (b.atR a (.code c :: .inLoop c :: kk)) cs w) b kk cs e a' w' := by
    intro m
    induction m using Nat.strongRecOn with
    | _ m ih =>
      intro a w ⟨x, G, φ, hI, hm, hr, hg⟩
      have := round x hI G1 w1 φ1 H1 G w φ a (Exit.then (fun a' w' => ∃ m', m' < m ∧ ∃ x G φ, I x ∧ μ x = m' ∧ Rep n G w' φ (st x).1 (st x).2 a' ∧ GoM G1 w1 φ1 H1 G w' φ (hp (st x).2) a') Qc) hk hr hg fun pe ρ' H' G' w' φ' a' hq hr' hg' => by
        cases pe with
        | normal =>
          obtain ⟨y, hy, hlt, hle'⟩ := hq
          obtain ⟨φ2, hr2, hg2⟩ := hr'.less hk hg' hle'
          exact ⟨μ y, by omega, y, G', φ2, hy, rfl, hr2, hg2⟩
        | exit id => exact hQ _ ρ' H' G' w' φ' a' hq hr' hg'
        | goto l => exact hQ _ ρ' H' G' w' φ' a' hq hr' hg'
        | ret => exact hQ _ ρ' H' G' w' φ' a' hq hr' hg'
      obtain ⟨e, a1, w2, hq, harr⟩ := this b (.inLoop c :: kk) cs hro hb hrm
      cases e with
      | normal =>
        obtain ⟨m', hlt, hx⟩ := hq
        obtain ⟨e2, a2, w3, hq2, harr2⟩ := ih m' hlt a1 w2 hx
        exact ⟨e2, a2, w3, hq2, .of_steps (StepsIn.trans harr (.one (fenced_calm hb hrm rfl) stepR_inLoop)) harr2⟩
      | exit id => exact ⟨_, a1, w2, hq, .pass (x := .inLoop c) rfl (fun _ _ => .inl (by simp)) harr⟩
      | goto l => exact ⟨_, a1, w2, hq, .pass (x := .inLoop c) rfl (fun _ _ => .inl (by simp)) harr⟩
      | ret => exact ⟨_, a1, w2, hq, .pass (x := .inLoop c) rfl (fun _ _ => .inl (by simp)) harr⟩
      | panic ch => exact ⟨_, a1, w2, hq, .pass (x := .inLoop c) rfl (fun _ _ => .inl (by simp)) harr⟩
      | outgrown => exact ⟨_, a1, w2, hq, .pass (x := .inLoop c) rfl (fun _ _ => .inl (by simp)) harr⟩
  obtain ⟨φ', hr', hg'⟩ := hr.less hk hg hle
  obtain ⟨e, a', w', hq, harr⟩ := key _ a w ⟨x0, G, φ', h0, rfl, hr', hg'⟩
  exact ⟨e, a', w', hq, .of_steps (.one (fenced_calm hb hrm rfl) stepR_loop) harr⟩
end
end Go.Proofs.Ytlafnhpmhflnaaa.Q
