/- Code step by step; slices that grow, ranges over functions, what is written no more. No condition. -/
import Derived.Test.YtblnfodnkacbbaaGreatDoorMB
import Derived.ScopeJumps
import Derived.RangeFuncLeaves
import Derived.RangeFuncRecord
set_option linter.unusedVariables false
set_option linter.unusedSectionVars false
set_option linter.unnecessarySimpa false
set_option linter.unusedSimpArgs false
namespace Go.Proofs.YtblnfodnkacbbaaGreatDoor.Q
variable [Amb]

/-- How a piece of code may be left. -/
inductive PX where
  | normal
  | exit (id : Nat)
  | goto (l : Nat)
  | ret
def PX.to : PX → Exit
  | .normal => .normal
  | .exit id => .exit id
  | .goto l => .goto l
  | .ret => .ret
abbrev Post := PX → Env → List Ob → Prop
/-- How many objects were lent; in a round of a range over a function: that one's record. -/
structure Md where
  k : Nat
  r : Option Nat
instance (k : Nat) : OfNat Md k := ⟨⟨k, none⟩⟩
/-- The marks that ranges over functions have left: new blocks that nobody owns, each empty. -/
def Mk (base : Nat) (w : World) (φ : Loc) (H : Hp) : List Deferred → Prop
  | [] => True
  | d :: ds => (d ∉ ds ∧ ∃ D, d = { target := .collected D, args := #[] } ∧ base ≤ D ∧ w.heap[D]? = some (.deferred (some [])) ∧ ¬ ownS φ H D) ∧ Mk base w φ H ds
theorem Mk.goes {base : Nat} {G G' : Imm} {w w' : World} {φ φ' : Loc} {H H' : Hp} (hg : Goes G w φ H G' w' φ' H') : ∀ {ds : List Deferred}, Mk base w φ H ds → Mk base w' φ' H' ds
  | [], _ => trivial
  | d :: ds, ⟨⟨h0, D, h1, h2, h3, h4⟩, h5⟩ => by
    have hlt := (Array.getElem?_eq_some_iff.1 h3).1
    refine ⟨⟨h0, D, h1, h2, (hg.block D hlt h4 (fun ⟨_, es, clk, he⟩ => by rw [h3] at he; cases he)).1.trans h3, fun ho => ?_⟩, Mk.goes hg h5⟩
    rcases hg.owns D ho with h | h
    · exact h4 h
    · omega
theorem Mk.owns {base : Nat} {w : World} {φ φ' : Loc} {H H' : Hp} (hg : ∀ b, ownS φ' H' b → ownS φ H b) : ∀ {ds : List Deferred}, Mk base w φ H ds → Mk base w φ' H' ds
  | [], _ => trivial
  | d :: ds, ⟨⟨h0, D, h1, h2, h3, h4⟩, h5⟩ => ⟨⟨h0, D, h1, h2, h3, fun ho => h4 (hg D ho)⟩, Mk.owns hg h5⟩
/-- What was left as it was since the function's start; the marks. -/
structure GoM (G0 : Imm) (w0 : World) (φ0 : Loc) (H0 : Hp) (G : Imm) (w : World) (φ : Loc) (H : Hp) (a : Act) : Prop where
  go : Goes G0 w0 φ0 H0 G w φ H
  mks : Mk w0.heap.size w φ H a.defers
theorem GoM.trans {G0 : Imm} {w0 : World} {φ0 : Loc} {H0 : Hp} {G : Imm} {w : World} {φ : Loc} {H : Hp} {a : Act} {G' : Imm} {w' : World} {φ' : Loc} {H' : Hp} {a' : Act} (h : GoM G0 w0 φ0 H0 G w φ H a) (k : Goes G w φ H G' w' φ' H') (hd : a'.defers = a.defers) : GoM G0 w0 φ0 H0 G' w' φ' H' a' :=
  ⟨h.go.trans k, by rw [hd]; exact h.mks.goes k⟩
/-- From this state the code comes to such as Q says (n: the frame's slots; k: so many objects were lent). -/
def SWp (P : Program) (n : Nat) (k : Md) (c : Code) (ρ : Env) (H : List Ob) (Q : Post) : Prop :=
  ∀ (G0 : Imm) (w0 : World) (φ0 : Loc) (H0 : Hp) (G : Imm) (w : World) (φ : Loc) (a : Act) (Qc : Exit → Act → World → Prop), (∀ i, k.k ≤ i → ∀ m, φ0 i m = none) → Rep n G w φ ρ H a → GoM G0 w0 φ0 H0 G w φ (hp H) a →
    (∀ pe ρ' H' G' w' φ' a', Q pe ρ' H' → Rep n G' w' φ' ρ' H' a' → GoM G0 w0 φ0 H0 G' w' φ' (hp H') a' → Qc pe.to a' w') → c.wpIn (Fr k.r) 0 P Qc a w
/-- The facts about a program that the logic goes by. -/
structure POk (P : Program) (tt : TT) : Prop where
  tt : TTok P tt
  mixed : P.follows .mixedOrders = true

section
variable {P : Program} {tt : TT} {n : Nat} {k : Md} {ρ : Env} {H : List Ob} {Q : Post}
theorem SWp.mono {c : Code} {Q' : Post} (h : SWp P n k c ρ H Q) (hk : ∀ pe ρ' H', Q pe ρ' H' → Q' pe ρ' H') : SWp P n k c ρ H Q' :=
  fun G0 w0 φ0 H0 G w φ a Qc h0 hr hg hQ => h G0 w0 φ0 H0 G w φ a Qc h0 hr hg fun pe ρ' H' G' w' φ' a' hq => hQ pe ρ' H' G' w' φ' a' (hk pe ρ' H' hq)
def seqK (next : Env → List Ob → Prop) (Q : Post) : Post := fun pe ρ H => match pe with
  | .normal => next ρ H
  | pe => Q pe ρ H
theorem SWp.seq {x y : Code} (h : SWp P n k x ρ H (seqK (fun ρ' H' => SWp P n k y ρ' H' Q) Q)) : SWp P n k (.seq x y) ρ H Q := by
  intro G0 w0 φ0 H0 G w φ a Qc h0 hr hg hQ
  refine wpIn_seq (h G0 w0 φ0 H0 G w φ a _ h0 hr hg fun pe ρ' H' G' w' φ' a' hq hr' hg' => ?_)
  cases pe with
  | normal => exact hq G0 w0 φ0 H0 G' w' φ' a' Qc h0 hr' hg' hQ
  | exit id => exact hQ _ ρ' H' G' w' φ' a' hq hr' hg'
  | goto l => exact hQ _ ρ' H' G' w' φ' a' hq hr' hg'
  | ret => exact hQ _ ρ' H' G' w' φ' a' hq hr' hg'
theorem SWp.skip (h : Q .normal ρ H) : SWp P n k .skip ρ H Q := fun G0 w0 φ0 H0 G w φ a Qc h0 hr hg hQ => wpIn_skip (hQ .normal ρ H G w φ a h hr hg)
theorem SWp.label {l : Nat} (h : Q .normal ρ H) : SWp P n k (.label l) ρ H Q := fun G0 w0 φ0 H0 G w φ a Qc h0 hr hg hQ => wpIn_label (hQ .normal ρ H G w φ a h hr hg)
theorem SWp.exit {id : Nat} (h : Q (.exit id) ρ H) : SWp P n k (.exit id) ρ H Q := fun G0 w0 φ0 H0 G w φ a Qc h0 hr hg hQ => wpIn_exit (hQ (.exit id) ρ H G w φ a h hr hg)
theorem SWp.goto {l : Nat} (h : Q (.goto l) ρ H) : SWp P n k (.goto l) ρ H Q := fun G0 w0 φ0 H0 G w φ a Qc h0 hr hg hQ => wpIn_goto (hQ (.goto l) ρ H G w φ a h hr hg)
theorem SWp.ret (h : Q .ret ρ H) : SWp P n k .ret ρ H Q := fun G0 w0 φ0 H0 G w φ a Qc h0 hr hg hQ => wpIn_ret (hQ .ret ρ H G w φ a h hr hg)
def condC (ρ : Env) (c : Operand) (A B : Prop) : Prop := match ev ρ c with
  | some (.d (.bool b)) => brP b A B
  | _ => False
theorem SWp.cond {c : Operand} {x y : Code} (h : condC ρ c (SWp P n k x ρ H Q) (SWp P n k y ρ H Q)) : SWp P n k (.cond c x y) ρ H Q := by
  intro G0 w0 φ0 H0 G w φ a Qc h0 hr hg hQ
  unfold condC at h
  split at h
  · rename_i b hb
    have hc : a.eval c = .bool b := ev_rep hr.env hb
    refine wpIn_cond hc ?_
    cases b with
    | true => exact h G0 w0 φ0 H0 G w φ a Qc h0 hr hg hQ
    | false => exact h G0 w0 φ0 H0 G w φ a Qc h0 hr hg hQ
  · exact h.elim
def blkK (id : Nat) (Q : Post) : Post := fun pe ρ H => match pe with
  | .exit i => bif Nat.beq i id then Q .normal ρ H else Q (.exit i) ρ H
  | pe => Q pe ρ H
theorem SWp.block {id : Nat} {c : Code} (h : SWp P n k c ρ H (blkK id Q)) : SWp P n k (.block id c) ρ H Q := by
  intro G0 w0 φ0 H0 G w φ a Qc h0 hr hg hQ
  refine wpIn_block (h G0 w0 φ0 H0 G w φ a _ h0 hr hg fun pe ρ' H' G' w' φ' a' hq hr' hg' => ?_)
  cases pe with
  | normal => exact hQ _ ρ' H' G' w' φ' a' hq hr' hg'
  | exit i =>
    simp only [PX.to, Exit.inBlock]
    simp only [blkK] at hq
    by_cases hi : i = id
    · subst hi
      rw [if_pos rfl]
      have : Nat.beq i i = true := by simp
      rw [this] at hq
      exact hQ .normal ρ' H' G' w' φ' a' hq hr' hg'
    · rw [if_neg hi]
      have : Nat.beq i id = false := by
        cases hb : Nat.beq i id with
        | false => rfl
        | true => exact absurd (Nat.eq_of_beq_eq_true hb) hi
      rw [this] at hq
      exact hQ (.exit i) ρ' H' G' w' φ' a' hq hr' hg'
  | goto l => exact hQ _ ρ' H' G' w' φ' a' hq hr' hg'
  | ret => exact hQ _ ρ' H' G' w' φ' a' hq hr' hg'
theorem SWp.region {id : Nat} {ops : Array Oper} (hP : POk P tt) (h : pops P tt n ops.toList ops.toList ρ H (Q .normal)) : SWp P n k (.region id ops false) ρ H Q := by
  intro G0 w0 φ0 H0 G w φ a Qc h0 hr hg hQ
  refine wpIn_region_list ?_
  have := pops_sem hP.tt k.r (Q := Qc) ops.toList ρ H h G w φ (hp H) G w φ a hr (Goes.refl _ _ _ _) fun ρ' H' G' w' φ' a' hq hr' hg' hd' => hQ .normal ρ' H' G' w' φ' a' hq hr' (hg.trans hg' hd')
  simpa using this
/-- No operation of the region is a defer statement. -/
def noDefer : List Oper → Bool
  | [] => true
  | o :: r => (match o.op with | .defer _ => false | _ => true) && noDefer r
theorem noDefer_get : ∀ {l : List Oper}, noDefer l = true → ∀ (i : Nat) o, l[i]? = some o → ∀ c, o.op ≠ .defer c
  | [], _, i, o, ho, c => by simp at ho
  | p :: r, h, 0, o, ho, c => by
    simp at ho; subst ho
    unfold noDefer at h
    intro hc
    rw [hc] at h
    simp at h
  | p :: r, h, i + 1, o, ho, c => by
    unfold noDefer at h
    simp only [Bool.and_eq_true] at h
    exact noDefer_get h.2 i o (by simpa using ho) c
theorem SWp.regionAny {id : Nat} {ops : Array Oper} (hP : POk P tt) (hB : slotsB ops.toList = true) (hD : noDefer ops.toList = true) (h : pd P tt n ops.toList ops.toList 0 ρ H [] (Q .normal)) : SWp P n k (.region id ops true) ρ H Q := by
  intro G0 w0 φ0 H0 G w φ a Qc h0 hr hg hQ
  obtain ⟨S, s1, s2, s3, _, s5, s6⟩ := pd_plan hP.tt ops.toList 0 ρ H [] h
  simp only [Nat.zero_add] at s3 s5 s6
  refine wpIn_region_any hP.mixed ?_
  have hsz : (Array.replicate ops.size false).size = ops.toList.length := by simp
  have hfalse : ∀ k, k < ops.toList.length → (Array.replicate ops.size false).getD k true = false := by
    intro k hk
    have : k < ops.size := by simpa using hk
    simp [Array.getD_eq_getD_getElem?, this]
  have hcnt : ∀ m, m ≤ ops.toList.length → cnt (fun k => (Array.replicate ops.size false).getD k true) m = m := by
    intro m
    induction m with
    | zero => intro _; rfl
    | succ m ih =>
      intro hm
      simp only [cnt, ih (by omega), hfalse m (by omega)]
      simp
  have hcur : ∀ {α : Type} (init : Nat → α) (wr : Nat → Nat → Option α) (l : Nat), cur init wr (fun k => (Array.replicate ops.size false).getD k true) ops.toList.length l = init l := by
    intro α init wr l
    refine cur_from (j := 0) (Nat.zero_le _) fun k _ hk h0 => ?_
    simp only [hfalse k hk] at h0; cases h0
  have hd := Goes.drew G w φ (hp H)
  have := any_sem (P := P) (n := n) (ops := ops.toList) (S := S) s3 s5 hB (r := k.r) (noDefer_get hD) (Q := Qc) (G0 := G) (w0 := w) (φ0 := φ) (H0 := hp H) (df := a.defers)
    (fun G' w' φ' a' hr' hd' hg' => hQ .normal _ _ G' w' φ' a' s6 hr' (hg.trans hg' hd')) ops.size (Array.replicate ops.size false) a G w.drew φ hsz (by rw [hcnt _ (Nat.le_refl _)]; simp)
    (fun j o ho h1 => by
      have hj := lt_of_get ho
      rw [hfalse j hj] at h1; cases h1)
    (by
      have : curH ops.toList S (fun k => (Array.replicate ops.size false).getD k true) = hp H := by
        funext i
        exact (hcur _ _ i).trans (by rw [s2])
      rw [this]; exact hr.sit.drew)
    (fun t x hx => hr.env t x (by
      have h1 := (hcur (fun t => lk (S 0).ρ t) (wrR ops.toList S) t).symm.trans hx
      rw [← s1]; exact h1)) rfl hr.size
    (by
      have : curH ops.toList S (fun k => (Array.replicate ops.size false).getD k true) = hp H := by
        funext i
        exact (hcur _ _ i).trans (by rw [s2])
      rw [this]; exact hd)
  simpa using this

/-! ### less is known -/
def Sub (f : Nat → Option Nat) (ρ : Env) : Env → Prop
  | [] => True
  | (t, x0) :: r => (match lk ρ t with | some x => x.ren f = some x0 | none => False) ∧ Sub f ρ r
def Sub0 (ρ : Env) : Env → Prop
  | [] => True
  | (t, x0) :: r => lk ρ t = some x0 ∧ Sub0 ρ r
/-- The first state says no more than the second: fewer slots; of the objects those of these numbers (the k that were lent among them, as they were). -/
def Le (k : Md) (ρ0 : Env) (H0 : List Ob) (ρ : Env) (H : List Ob) : Prop := (Sub0 ρ ρ0 ∧ H = H0) ∨ ∃ ids, (nodupB ids = true ∧ ids.take k.k = List.range k.k) ∧ obsAt H (pos ids) ids = some H0 ∧ Sub (pos ids) ρ ρ0
theorem Le.same {ρ0 : Env} (h : Sub0 ρ ρ0) : Le k ρ0 H ρ H := .inl ⟨h, rfl⟩
theorem sub0_lk {ρ0 : Env} (h : Sub0 ρ ρ0) : ∀ t x, lk ρ0 t = some x → lk ρ t = some x := by
  induction ρ0 with
  | nil => intro t x hx; cases hx
  | cons p r ih =>
    obtain ⟨k, y⟩ := p
    intro t x hx
    rw [lk_put] at hx
    split at hx
    · rename_i hk; injection hx with hx; subst hx; subst hk; exact h.1
    · exact ih h.2 t x hx
theorem sub_lk {f : Nat → Option Nat} {ρ0 : Env} (h : Sub f ρ ρ0) : ∀ t x, lk ρ0 t = some x → ∃ y, lk ρ t = some y ∧ y.ren f = some x := by
  induction ρ0 with
  | nil => intro t x hx; cases hx
  | cons p r ih =>
    obtain ⟨k, y⟩ := p
    intro t x hx
    rw [lk_put] at hx
    split at hx
    · rename_i hk
      injection hx with hx; subst hx; subst hk
      have := h.1
      split at this
      · rename_i z hz; exact ⟨z, hz, this⟩
      · exact this.elim
    · exact ih h.2 t x hx
theorem Rep.less {ρ0 : Env} {H0 : List Ob} {G : Imm} {w : World} {φ : Loc} {a : Act} {G1 : Imm} {w1 : World} {φ1 : Loc} {H1 : Hp} (hk : ∀ i, k.k ≤ i → ∀ m, φ1 i m = none) (hr : Rep n G w φ ρ H a) (hg : GoM G1 w1 φ1 H1 G w φ (hp H) a) (h : Le k ρ0 H0 ρ H) :
    ∃ φ', Rep n G w φ' ρ0 H0 a ∧ GoM G1 w1 φ1 H1 G w φ' (hp H0) a := by
  rcases h with ⟨h1, rfl⟩ | ⟨ids, ⟨h1, hk1⟩, h2, h3⟩
  · exact ⟨φ, ⟨hr.sit, fun t x hx => hr.env t x (sub0_lk h1 t x hx), hr.size⟩, hg⟩
  · have hnd := nodupB_spec h1
    have hls := lent_sit hr.sit hnd (fun i _ => rfl) h2
    obtain ⟨hl, hget⟩ := obsAt_get h2
    have hown : ∀ b, ownS (lentLoc φ ids) (hp H0) b → ownS φ (hp H) b := fun b hb => by
      obtain ⟨i, ob, hi, ho⟩ := hb
      have hil := lt_of_get hi
      have e1 : ids[i]? = some ids[i] := List.getElem?_eq_getElem (by omega)
      obtain ⟨ob0, ob', g1, g2, g3⟩ := hget i _ e1
      have hi' : H0[i]? = some ob := hi
      rw [hi'] at g3; injection g3 with g3; subst g3
      refine ⟨ids[i], ob0, g1, ?_⟩
      rw [← Ob.ren_own (φ2 := lentLoc φ ids) (i := i) (fun m => by unfold lentLoc; rw [e1]) g2]
      exact ho
    refine ⟨lentLoc φ ids, ⟨hls, fun t x hx => ?_, hr.size⟩, ⟨⟨hg.go.le, fun i m z hz => ?_, hg.go.os, hg.go.tape, hg.go.output, hg.go.size, hg.go.block, fun b hb => hg.go.owns b (hown b hb)⟩, hg.mks.owns hown⟩⟩
    · obtain ⟨y, hy, hyx⟩ := sub_lk h3 t x hx
      obtain ⟨v, v1, v2⟩ := hr.env t y hy
      exact ⟨v, v1, V.ren_rep (lent_moves φ ids) _ _ _ hyx v2⟩
    · have hi : i < k.k := by
        rcases Nat.lt_or_ge i k.k with h | h
        · exact h
        · rw [hk i h m] at hz; cases hz
      have e1 : ids[i]? = some i := by
        have : (ids.take k.k)[i]? = (List.range k.k)[i]? := by rw [hk1]
        rw [List.getElem?_take, if_pos hi, List.getElem?_range hi] at this
        exact this
      unfold lentLoc
      rw [e1]
      exact hg.go.ple i m z hz
theorem SWp.weaken {c : Code} {ρ0 : Env} {H0 : List Ob} (h : SWp P n k c ρ0 H0 Q) (hle : Le k ρ0 H0 ρ H) : SWp P n k c ρ H Q := by
  intro G1 w1 φ1 H1 G w φ a Qc h0 hr hg hQ
  obtain ⟨φ', hr', hg'⟩ := hr.less h0 hg hle
  exact h G1 w1 φ1 H1 G w φ' a Qc h0 hr' hg' hQ
/-- A loop: what holds at every round's head, and what every round makes smaller. -/
theorem SWp.loop {α : Type} {c : Code} (I : α → Prop) (st : α → Env × List Ob) (μ : α → Nat) (x0 : α) (h0 : I x0) (hle : Le k (st x0).1 (st x0).2 ρ H)
    (round : ∀ x, I x → SWp P n k c (st x).1 (st x).2 (seqK (fun ρ' H' => ∃ y, I y ∧ μ y < μ x ∧ Le k (st y).1 (st y).2 ρ' H') Q)) : SWp P n k (.loop c) ρ H Q := by
  intro G1 w1 φ1 H1 G w φ a Qc hk hr hg hQ b kk cs hro hb hrm
  have key : ∀ (m : Nat) (a : Act) (w : World), (∃ x G φ, I x ∧ μ x = m ∧ Rep n G w φ (st x).1 (st x).2 a ∧ GoM G1 w1 φ1 H1 G w φ (hp (st x).2) a) →
      ∃ e a' w', Qc e a' w' ∧ ArrivesIn (Machine.fenced P (Fr k.r)) P (lone (b.atR a (.code c :: .inLoop c :: kk)) cs w) b kk cs e a' w' := by
    intro m
    induction m using Nat.strongRecOn with
    | _ m ih =>
      intro a w ⟨x, G, φ, hI, hm, hr, hg⟩
      have := round x hI G1 w1 φ1 H1 G w φ a (Exit.then (fun a' w' => ∃ m', m' < m ∧ ∃ x G φ, I x ∧ μ x = m' ∧ Rep n G w' φ (st x).1 (st x).2 a' ∧ GoM G1 w1 φ1 H1 G w' φ (hp (st x).2) a') Qc) hk hr hg fun pe ρ' H' G' w' φ' a' hq hr' hg' => by
        cases pe with
        | normal =>
          obtain ⟨y, hy, hlt, hle'⟩ := hq
          obtain ⟨φ2, hr2, hg2⟩ := hr'.less hk hg' hle'
          exact ⟨μ y, by omega, y, G', φ2, hy, rfl, hr2, hg2⟩
        | exit id => exact hQ _ ρ' H' G' w' φ' a' hq hr' hg'
        | goto l => exact hQ _ ρ' H' G' w' φ' a' hq hr' hg'
        | ret => exact hQ _ ρ' H' G' w' φ' a' hq hr' hg'
      obtain ⟨e, a1, w2, hq, harr⟩ := this b (.inLoop c :: kk) cs hro hb hrm
      cases e with
      | normal =>
        obtain ⟨m', hlt, hx⟩ := hq
        obtain ⟨e2, a2, w3, hq2, harr2⟩ := ih m' hlt a1 w2 hx
        exact ⟨e2, a2, w3, hq2, .of_steps (StepsIn.trans harr (.one (fenced_calm hb hrm rfl) stepR_inLoop)) harr2⟩
      | exit id => exact ⟨_, a1, w2, hq, .pass (x := .inLoop c) rfl (fun _ _ => .inl (by simp)) harr⟩
      | goto l => exact ⟨_, a1, w2, hq, .pass (x := .inLoop c) rfl (fun _ _ => .inl (by simp)) harr⟩
      | ret => exact ⟨_, a1, w2, hq, .pass (x := .inLoop c) rfl (fun _ _ => .inl (by simp)) harr⟩
      | panic ch => exact ⟨_, a1, w2, hq, .pass (x := .inLoop c) rfl (fun _ _ => .inl (by simp)) harr⟩
      | outgrown => exact ⟨_, a1, w2, hq, .pass (x := .inLoop c) rfl (fun _ _ => .inl (by simp)) harr⟩
  obtain ⟨φ', hr', hg'⟩ := hr.less hk hg hle
  obtain ⟨e, a', w', hq, harr⟩ := key _ a w ⟨x0, G, φ', h0, rfl, hr', hg'⟩
  exact ⟨e, a', w', hq, .of_steps (.one (fenced_calm hb hrm rfl) stepR_loop) harr⟩
end
end Go.Proofs.YtblnfodnkacbbaaGreatDoor.Q

namespace Go.Proofs.YtblnfodnkacbbaaGreatDoor.Q
variable [Amb]
/-- What a piece of code comes to; at a loop, a scope, a range over a function the logic's own word is left. -/
def step (P : Program) (tt : TT) (n : Nat) (k : Md) (c : Code) : Env → List Ob → Post → Prop :=
  @Code.rec (fun _ => Env → List Ob → Post → Prop)
    (fun ρ H Q => Q .normal ρ H)
    (fun _ ops draw ρ H Q => match draw with
      | false => pops P tt n ops.toList ops.toList ρ H (Q .normal)
      | true => pd P tt n ops.toList ops.toList 0 ρ H [] (Q .normal))
    (fun _ _ a b ρ H Q => a ρ H (seqK (fun ρ' H' => b ρ' H' Q) Q))
    (fun c _ _ x y ρ H Q => condC ρ c (x ρ H Q) (y ρ H Q))
    (fun id _ c ρ H Q => c ρ H (blkK id Q))
    (fun c _ ρ H Q => SWp P n k (.loop c) ρ H Q)
    (fun f ps a b _ _ ρ H Q => SWp P n k (.rangeFunc f ps a b) ρ H Q)
    (fun id ρ H Q => Q (.exit id) ρ H)
    (fun c _ ρ H Q => SWp P n k (.scope c) ρ H Q)
    (fun _ ρ H Q => Q .normal ρ H)
    (fun l ρ H Q => Q (.goto l) ρ H)
    (fun ρ H Q => Q .ret ρ H)
    (fun _ _ _ _ => False) c
/-- Every region of the code whose order is open has its slots apart. -/
def codeOk : Code → Bool
  | .region _ ops draw => match draw with
    | true => slotsB ops.toList && noDefer ops.toList
    | false => true
  | .seq a b => codeOk a && codeOk b
  | .cond _ x y => codeOk x && codeOk y
  | .block _ c => codeOk c
  | _ => true
section
variable {P : Program} {tt : TT} {n : Nat} {k : Md}
theorem condC_mono {ρ : Env} {c : Operand} {A B A' B' : Prop} (h : condC ρ c A B) (ha : A → A') (hb : B → B') : condC ρ c A' B' := by
  unfold condC at *
  split
  · rename_i b hbb
    rw [hbb] at h
    cases b
    · exact hb h
    · exact ha h
  · rename_i hno
    split at h
    · rename_i b hbb; exact absurd hbb (hno b)
    · exact h
theorem SWp.go (hP : POk P tt) {c : Code} : codeOk c = true → ∀ {ρ : Env} {H : List Ob} {Q : Post}, step P tt n k c ρ H Q → SWp P n k c ρ H Q := by
  induction c with
  | skip => intro _ ρ H Q h; exact SWp.skip h
  | region id ops draw =>
    intro hc ρ H Q h
    cases draw with
    | false => exact SWp.region hP h
    | true => exact SWp.regionAny hP ((Bool.and_eq_true _ _).mp hc).1 ((Bool.and_eq_true _ _).mp hc).2 h
  | seq a b iha ihb =>
    intro hc ρ H Q h
    simp only [codeOk, Bool.and_eq_true] at hc
    refine SWp.seq (SWp.mono (iha hc.1 h) fun pe ρ' H' hq => ?_)
    cases pe with
    | normal => exact ihb hc.2 hq
    | exit id => exact hq
    | goto l => exact hq
    | ret => exact hq
  | cond c x y ihx ihy =>
    intro hc ρ H Q h
    simp only [codeOk, Bool.and_eq_true] at hc
    exact SWp.cond (condC_mono h (ihx hc.1) (ihy hc.2))
  | block id c ih => intro hc ρ H Q h; exact SWp.block (ih hc h)
  | loop c ih => intro _ ρ H Q h; exact h
  | rangeFunc f ps a b => intro _ ρ H Q h; exact h
  | exit id => intro _ ρ H Q h; exact SWp.exit h
  | scope c ih => intro _ ρ H Q h; exact h
  | label l => intro _ ρ H Q h; exact SWp.label h
  | goto l => intro _ ρ H Q h; exact SWp.goto h
  | ret => intro _ ρ H Q h; exact SWp.ret h
  | refuse s => intro _ ρ H Q h; exact h.elim

/-- A statement whose ways all come together in one state. -/
theorem SWp.cut (hP : POk P tt) {a b : Code} {ρ : Env} {H : List Ob} {Q : Post} (ρ0 : Env) (H0 : List Ob) (hc : codeOk a = true) (first : step P tt n k a ρ H (seqK (fun ρ' H' => Le k ρ0 H0 ρ' H') Q)) (rest : SWp P n k b ρ0 H0 Q) : SWp P n k (.seq a b) ρ H Q := by
  refine SWp.seq (SWp.mono (SWp.go hP hc first) fun pe ρ' H' hq => ?_)
  cases pe with
  | normal => exact rest.weaken hq
  | exit id => exact hq
  | goto l => exact hq
  | ret => exact hq
/-- One statement. -/
theorem SWp.then (hP : POk P tt) {a b : Code} {ρ : Env} {H : List Ob} {Q : Post} (hc : codeOk a = true) (h : step P tt n k a ρ H (seqK (fun ρ' H' => SWp P n k b ρ' H' Q) Q)) : SWp P n k (.seq a b) ρ H Q := SWp.seq (SWp.go hP hc h)

/-! ### scopes -/
def jmpK (l : Nat) (J : Env → List Ob → Prop) (Q : Post) : Post := fun pe ρ H => match pe with
  | .goto l' => bif Nat.beq l' l then J ρ H else False
  | pe => Q pe ρ H
theorem stepR_scope {b : Frame} {a : Act} {kk : List Item} {cs : List Frame} {w : World} {c : Code} : Go.step P (lone (b.atR a (.code (.scope c) :: kk)) cs w) = .next (lone (b.atR a (.code c :: .inScope c :: kk)) cs w) :=
  step_lone_go (by simp [stepG, stepG.exec, Frame.atR])
theorem stepR_inScope {b : Frame} {a : Act} {kk : List Item} {cs : List Frame} {w : World} {c : Code} : Go.step P (lone (b.atR a (.inScope c :: kk)) cs w) = .next (lone (b.atR a kk) cs w) :=
  step_lone_go (by simp [stepG, stepG.exec, Frame.atR])
/-- A scope with jumps to one label, each ahead or made smaller by a measure. -/
theorem SWp.scope {α : Type} {c rest : Code} {ρ : Env} {H : List Ob} {Q : Post} (l : Nat) (hf : findLabel c l = some rest) (I : α → Prop) (st : α → Env × List Ob) (μ : α → Nat)
    (first : SWp P n k c ρ H (jmpK l (fun ρ' H' => ∃ y, I y ∧ Le k (st y).1 (st y).2 ρ' H') Q))
    (pass : ∀ x, I x → SWp P n k rest (st x).1 (st x).2 (jmpK l (fun ρ' H' => ∃ y, I y ∧ μ y < μ x ∧ Le k (st y).1 (st y).2 ρ' H') Q)) : SWp P n k (.scope c) ρ H Q := by
  intro G1 w1 φ1 H1 G w φ a Qc hk hr hg hQ b kk cs hro hb hrm
  have hgt : gotoIn l (.inScope c :: kk) = some (.code rest :: .inScope c :: kk) := by simp [gotoIn, hf]
  have key : ∀ (m : Nat) (a : Act) (w : World), (∃ x G φ, I x ∧ μ x = m ∧ Rep n G w φ (st x).1 (st x).2 a ∧ GoM G1 w1 φ1 H1 G w φ (hp (st x).2) a) →
      ∃ e a' w', Qc e a' w' ∧ ArrivesIn (Machine.fenced P (Fr k.r)) P (lone (b.atR a (.code rest :: .inScope c :: kk)) cs w) b kk cs e a' w' := by
    intro m
    induction m using Nat.strongRecOn with
    | _ m ih =>
      intro a w ⟨x, G, φ, hI, hm, hr, hg⟩
      have := pass x hI G1 w1 φ1 H1 G w φ a (Exit.jump l (fun a' w' => ∃ m', m' < m ∧ ∃ x G φ, I x ∧ μ x = m' ∧ Rep n G w' φ (st x).1 (st x).2 a' ∧ GoM G1 w1 φ1 H1 G w' φ (hp (st x).2) a') Qc) hk hr hg fun pe ρ' H' G' w' φ' a' hq hr' hg' => by
        cases pe with
        | normal => exact hQ .normal ρ' H' G' w' φ' a' hq hr' hg'
        | exit id => exact hQ (.exit id) ρ' H' G' w' φ' a' hq hr' hg'
        | goto l' =>
          simp only [jmpK] at hq
          cases hb : Nat.beq l' l with
          | false => rw [hb] at hq; exact hq.elim
          | true =>
            rw [hb] at hq
            obtain ⟨y, hy, hlt, hle'⟩ := hq
            obtain ⟨φ2, hr2, hg2⟩ := hr'.less hk hg' hle'
            exact ⟨Nat.eq_of_beq_eq_true hb, μ y, by omega, y, G', φ2, hy, rfl, hr2, hg2⟩
        | ret => exact hQ .ret ρ' H' G' w' φ' a' hq hr' hg'
      obtain ⟨e, a1, w2, hq, harr⟩ := this b (.inScope c :: kk) cs hro hb hrm
      cases e with
      | normal => exact ⟨.normal, a1, w2, hq, StepsIn.trans harr (.one (fenced_calm hb hrm rfl) stepR_inScope)⟩
      | exit id => exact ⟨.exit id, a1, w2, hq, fun k' hk => harr.1 k' (by simp [exitTo, hk]), fun hr' hk => harr.2 hr' (by simp [exitTo, hk])⟩
      | goto l' =>
        obtain ⟨rfl, m', hlt, hx⟩ := hq
        obtain ⟨e2, a2, w3, hq2, harr2⟩ := ih m' hlt a1 w2 hx
        exact ⟨e2, a2, w3, hq2, .of_steps (harr.1 _ hgt) harr2⟩
      | ret => exact ⟨_, a1, w2, hq, harr⟩
      | panic ch => exact ⟨_, a1, w2, hq, harr⟩
      | outgrown => exact ⟨_, a1, w2, hq, harr⟩
  have := first G1 w1 φ1 H1 G w φ a (Exit.jump l (fun a' w' => ∃ x G φ, I x ∧ Rep n G w' φ (st x).1 (st x).2 a' ∧ GoM G1 w1 φ1 H1 G w' φ (hp (st x).2) a') Qc) hk hr hg fun pe ρ' H' G' w' φ' a' hq hr' hg' => by
    cases pe with
    | normal => exact hQ .normal ρ' H' G' w' φ' a' hq hr' hg'
    | exit id => exact hQ (.exit id) ρ' H' G' w' φ' a' hq hr' hg'
    | goto l' =>
      simp only [jmpK] at hq
      cases hb : Nat.beq l' l with
      | false => rw [hb] at hq; exact hq.elim
      | true =>
        rw [hb] at hq
        obtain ⟨y, hy, hle'⟩ := hq
        obtain ⟨φ2, hr2, hg2⟩ := hr'.less hk hg' hle'
        exact ⟨Nat.eq_of_beq_eq_true hb, y, G', φ2, hy, hr2, hg2⟩
    | ret => exact hQ .ret ρ' H' G' w' φ' a' hq hr' hg'
  obtain ⟨e, a1, w2, hq, harr⟩ := this b (.inScope c :: kk) cs hro hb hrm
  cases e with
  | normal => exact ⟨.normal, a1, w2, hq, .head (fenced_calm hb hrm rfl) stepR_scope (StepsIn.trans harr (.one (fenced_calm hb hrm rfl) stepR_inScope))⟩
  | exit id => exact ⟨.exit id, a1, w2, hq, fun k' hk => .head (fenced_calm hb hrm rfl) stepR_scope (harr.1 k' (by simp [exitTo, hk])), fun hr' hk => let ⟨k1, h1, h2⟩ := harr.2 hr' (by simp [exitTo, hk]); ⟨k1, h1, .head (fenced_calm hb hrm rfl) stepR_scope h2⟩⟩
  | goto l' =>
    obtain ⟨rfl, x, G, φ, h1, h2, h3⟩ := hq
    obtain ⟨e2, a2, w3, hq2, harr2⟩ := key _ a1 w2 ⟨x, G, φ, h1, rfl, h2, h3⟩
    exact ⟨e2, a2, w3, hq2, .of_steps (.head (fenced_calm hb hrm rfl) stepR_scope (harr.1 _ hgt)) harr2⟩
  | ret => exact ⟨_, a1, w2, hq, .of_steps (.one (fenced_calm hb hrm rfl) stepR_scope) harr⟩
  | panic ch => exact ⟨_, a1, w2, hq, .of_steps (.one (fenced_calm hb hrm rfl) stepR_scope) harr⟩
  | outgrown => exact ⟨_, a1, w2, hq, .of_steps (.one (fenced_calm hb hrm rfl) stepR_scope) harr⟩
/-- A scope without jumps. -/
def noJ (Q : Post) : Post := fun pe ρ H => match pe with
  | .goto _ => False
  | pe => Q pe ρ H
theorem SWp.scope0 {c : Code} {ρ : Env} {H : List Ob} {Q : Post} (h : SWp P n k c ρ H (noJ Q)) : SWp P n k (.scope c) ρ H Q := by
  intro G1 w1 φ1 H1 G w φ a Qc hk hr hg hQ b kk cs hro hb hrm
  have := h G1 w1 φ1 H1 G w φ a (Exit.noGoto Qc) hk hr hg fun pe ρ' H' G' w' φ' a' hq hr' hg' => by
    cases pe with
    | normal => exact hQ _ ρ' H' G' w' φ' a' hq hr' hg'
    | exit id => exact hQ _ ρ' H' G' w' φ' a' hq hr' hg'
    | goto l => exact hq.elim
    | ret => exact hQ _ ρ' H' G' w' φ' a' hq hr' hg'
  obtain ⟨e, a1, w2, hq, harr⟩ := this b (.inScope c :: kk) cs hro hb hrm
  cases e with
  | normal => exact ⟨.normal, a1, w2, hq, .head (fenced_calm hb hrm rfl) stepR_scope (StepsIn.trans harr (.one (fenced_calm hb hrm rfl) stepR_inScope))⟩
  | exit id => exact ⟨.exit id, a1, w2, hq, fun k' hk => .head (fenced_calm hb hrm rfl) stepR_scope (harr.1 k' (by simp [exitTo, hk])), fun hr' hk => let ⟨k1, h1, h2⟩ := harr.2 hr' (by simp [exitTo, hk]); ⟨k1, h1, .head (fenced_calm hb hrm rfl) stepR_scope h2⟩⟩
  | goto l' => exact hq.elim
  | ret => exact ⟨_, a1, w2, hq, .of_steps (.one (fenced_calm hb hrm rfl) stepR_scope) harr⟩
  | panic ch => exact ⟨_, a1, w2, hq, .of_steps (.one (fenced_calm hb hrm rfl) stepR_scope) harr⟩
  | outgrown => exact ⟨_, a1, w2, hq, .of_steps (.one (fenced_calm hb hrm rfl) stepR_scope) harr⟩

/-! ### functions -/
def argEnv : Nat → List V → Env
  | _, [] => []
  | i, x :: xs => (i, x) :: argEnv (i + 1) xs
def resV (tt : TT) (ρ : Env) (H : List Ob) : ResultVar → Option V
  | .tmp t => lk ρ t
  | .cell a t => match lk ρ a, tt t with
    | some (.ptr id off), some e => match H[id]? with
      | some (.box cells) => match e.kind.agg with
        | true => bif Nat.ble (off + e.size) cells.length then some (.agg ((cells.drop off).take e.size)) else none
        | false => cells[off]?
      | _ => none
    | _, _ => none
def resVs (tt : TT) (ρ : Env) (H : List Ob) : List ResultVar → Option (List V)
  | [] => some []
  | r :: rs => match resV tt ρ H r with
    | some x => match resVs tt ρ H rs with
      | some xs => some (x :: xs)
      | none => none
    | none => none
def resAll : List V → V
  | [x] => x
  | xs => .tup xs
def keepIds (H : List Ob) (k : Nat) (r : V) : List Nat := List.range k ++ (reach H 1000 (List.range k ++ r.ids) []).filter fun i => Nat.ble k i
def finP (H : List Ob) (k : Nat) (r : V) (R : V → List Ob → Prop) : Prop :=
  match r.ren (pos (keepIds H k r)), obsAt H (pos (keepIds H k r)) (keepIds H k r) with
  | some r', some h' => condP (nodupB (keepIds H k r)) (R r' h')
  | _, _ => False
def fnPost (tt : TT) (rs : List ResultVar) (k : Nat) (R : V → List Ob → Prop) : Post := fun pe ρ H =>
  match pe with
  | .normal => match resVs tt ρ H rs with
    | some xs => finP H k (resAll xs).plain R
    | none => False
  | .ret => match resVs tt ρ H rs with
    | some xs => finP H k (resAll xs).plain R
    | none => False
  | _ => False
theorem argEnv_lk : ∀ (xs : List V) (i t : Nat), lk (argEnv i xs) t = if i ≤ t then xs[t - i]? else none
  | [], i, t => by simp [argEnv, lk]
  | x :: xs, i, t => by
    rw [argEnv, lk_put]
    by_cases h : i = t
    · subst h; simp
    · rw [if_neg h, argEnv_lk xs (i + 1) t]
      by_cases h2 : i ≤ t
      · rw [if_pos (by omega), if_pos h2, show t - i = (t - (i + 1)) + 1 by omega]; simp
      · rw [if_neg (by omega), if_neg h2]
def resF (tmps : Array Value) : ResultVar → Sem Value
  | .tmp t => pure (tmps.getD t undef)
  | .cell p t => do loadVar t (← asAddr (tmps.getD p undef))
theorem results_eq (fn : Func) (tmps : Array Value) : results fn tmps = (do
    let vs ← fn.results.mapM (resF tmps)
    pure (if h : vs.size = 1 then vs[0] else .tuple vs)) := by
  unfold results
  congr 1
theorem run_res (htt : TTok P tt) {G : Imm} {w : World} {φ : Loc} {ρ : Env} {H : List Ob} {a : Act} (hs : Sit G w φ (hp H)) (henv : EnvOk G φ ρ a) : ∀ {rs : List ResultVar} {xs : List V}, resVs tt ρ H rs = some xs →
    ∃ us : List Value, (rs.mapM (resF a.tmps)).run P w = .ok us w ∧ repVs G φ xs us
  | [], xs, h => by simp [resVs] at h; subst h; exact ⟨[], rfl, rfl⟩
  | r :: rs, xs, h => by
    unfold resVs at h
    split at h
    · rename_i x hx
      split at h
      · rename_i ys hys
        injection h with h; subst h
        obtain ⟨us, h1, h2⟩ := run_res htt hs henv hys
        have one : ∃ v, (resF a.tmps r).run P w = .ok v w ∧ x.rep G φ v := by
          cases r with
          | tmp t =>
            obtain ⟨v, v1, v2⟩ := henv t x hx
            exact ⟨v, by simp [resF, Array.getD_eq_getD_getElem?, v1], v2⟩
          | cell p t =>
            unfold resV at hx
            dsimp only at hx
            split at hx
            · rename_i id off e hp he
              split at hx
              · rename_i cells hH
                obtain ⟨v, v1, b, c, v2, v3⟩ := henv p _ hp
                obtain ⟨b', c', T, us', k1, k2, k3, k4, k5⟩ := hs.holds id _ hH
                rw [v2] at k1; injection k1 with k1; injection k1 with k1 k1'; injection k1 with k1; injection k1 with k1; subst k1
                have hl := repVs_len k3
                have hp' : a.tmps.getD p undef = .pointer (some ⟨b, off, none⟩) := by simp [Array.getD_eq_getD_getElem?, v1, v3]
                split at hx
                · rename_i hagg
                  cases hc : Nat.ble (off + e.size) cells.length with
                  | false => rw [hc] at hx; cases hx
                  | true =>
                    rw [hc] at hx
                    have hle := Nat.le_of_ble_eq_true hc
                    injection hx with hx; subst hx
                    refine ⟨.agg ((us'.drop off).take e.size).toArray, ?_, ⟨_, rfl, repVs_take (repVs_drop k3 _) _, fun u hu => k4 u (List.mem_of_mem_drop (List.mem_of_mem_take hu))⟩⟩
                    have := run_loadVar_many (P := P) w htt he hagg b off ((us'.drop off).take e.size) (by simp; omega) (fun j v hj => by
                      rw [cell_us w k2, ← List.getElem?_drop]
                      rw [List.getElem?_take] at hj
                      split at hj
                      · exact hj
                      · cases hj)
                    simp [resF, hp', asAddr, this]
                · rename_i hagg
                  obtain ⟨u, u1, u2⟩ := repVs_get k3 off x hx
                  refine ⟨u, ?_, u2⟩
                  have := run_loadVar_one (P := P) w htt he hagg b off (by rw [cell_us w k2, u1])
                  simp [resF, hp', asAddr, this]
              · cases hx
            · cases hx
        obtain ⟨v, v1, v2⟩ := one
        refine ⟨v :: us, ?_, ⟨v, us, rfl, v2, h2⟩⟩
        rw [List.mapM_cons, Sem.run_bind, v1]
        simp only [Result.andThen_ok, Sem.run_bind, h1, Sem.run_pure]
      · cases h
    · cases h
theorem putObj_heap (w : World) (D : Nat) (o : Obj) {k : Nat} (h : k ≠ D) : (w.putObj D o).heap[k]? = w.heap[k]? := World.putObj_heap_other h
theorem marks_leave {fn : Func} {tmps : Array Value} {R : Ending → World → Prop} {G0 : Imm} {w0 : World} {φ0 : Loc} {H0 : Hp} {G : Imm} {φ : Loc} {Hx : Hp}
    (k : ∀ w, Sit G w φ Hx → Goes G0 w0 φ0 H0 G w φ Hx → LeavesIn (Fr none) 0 P fn tmps R [] .returning w) :
    ∀ (ds : List Deferred) (w : World), Mk w0.heap.size w φ Hx ds → Sit G w φ Hx → Goes G0 w0 φ0 H0 G w φ Hx → LeavesInM (Fr none) 0 P fn tmps R ds .returning w
  | [], w, _, hs, hg => k w hs hg
  | d :: ds, w, ⟨⟨h0, D, h1, h2, h3, h4⟩, h5⟩, hs, hg => by
    subst h1
    have hne : ∀ b o v, G b o = some v → b ≠ D := fun b o v hb e => by
      subst e
      rcases hs.inv.1 b o v hb with this | ⟨_, es, clk, this, _⟩ | ⟨_, cs, T, this, _⟩
      · simp [World.cell?, h3] at this
      · rw [h3] at this; cases this
      · rw [h3] at this; cases this
    have hs1 : Sit G (w.putObj D (.deferred none)) φ Hx := by
      refine ⟨hs.inv.of (Imm.le.refl _) (fun b cs T fr hb h0 hG => putObj_heap w D _ fun e => by subst e; rw [h3] at hb; cases hb) fun b o v hb => ?_, fun i ob hi => (hs.holds i ob hi).keep (Imm.le.refl _) (Loc.le.refl _) (fun _ => rfl) (by rw [World.putObj_size]; exact Nat.le_refl _) (fun b hb => ⟨putObj_heap w D _ (fun e => h4 ⟨i, ob, hi, e ▸ hb⟩), fun _ => rfl⟩), hs.dist, hs.un⟩
      refine (hs.inv.1 b o v hb).go (Imm.le.refl _) (fun h6 => ?_) fun _ => putObj_heap w D _ (hne b o v hb)
      unfold World.cell? at h6 ⊢
      rw [putObj_heap w D _ (hne b o v hb)]
      exact h6
    have hg1 : Goes G0 w0 φ0 H0 G (w.putObj D (.deferred none)) φ Hx :=
      ⟨hg.le, hg.ple, hg.os, hg.tape, hg.output, by rw [World.putObj_size]; exact hg.size, fun b hb hn hm => ⟨(putObj_heap w D _ (by omega)).trans (hg.block b hb hn hm).1, (hg.block b hb hn hm).2⟩, hg.owns⟩
    refine ⟨by simp, .inl ⟨D, _, rfl, run_takeDeferred h3, marks_leave k ds _ ?_ hs1 hg1⟩⟩
    have go : ∀ (l : List Deferred), { target := .collected D, args := #[] } ∉ l → Mk w0.heap.size w φ Hx l → Mk w0.heap.size (w.putObj D (.deferred none)) φ Hx l := by
      intro l
      induction l with
      | nil => intro _ _; trivial
      | cons e l ih =>
        rintro hn ⟨⟨a0, D', a1, a2, a3, a4⟩, a5⟩
        refine ⟨⟨a0, D', a1, a2, (putObj_heap w D _ (fun hh => hn ?_)).trans a3, a4⟩, ih (fun hh => hn (List.mem_cons_of_mem _ hh)) a5⟩
        subst hh; subst a1; exact List.mem_cons_self
    exact go ds h0 h5
theorem fn_sem (hP : POk P tt) {f : FuncId} {fn : Func} {c : Code} {args : List V} {h : List Ob} {R : V → List Ob → Prop} {rs : List ResultVar} (m kk : Nat) (hf : P.funcs[f]? = some fn) (hname : (fn.name == "runtime.NumGoroutine") = false) (hb : fn.body = some c) (hm : args.length + (fn.ntmps - args.length) = m) (hkk : h.length = kk) (hrs : fn.results.toList = rs)
    (hw : SWp P m ⟨kk, none⟩ c (argEnv 0 args) h (fnPost tt rs kk R)) : PCalls P f args h R := by
  subst hm
  subst hkk
  subst hrs
  refine ⟨⟨fn, hf, hname, by rw [hb]; rfl⟩, fun G w φ vs hs hr => ?_⟩
  have hvl := repVs_len hr
  refine (callsIn_wide (n := 0)).1 (callsIn_of_wp_marks (F := Fr none) hf hb trivial ?_ rfl)
  refine hw G w φ (hp h) G w φ _ _ (fun i hi m => hs.un i (List.getElem?_eq_none hi) m) ⟨hs, fun t x hx => ?_, by simp [hvl]⟩ ⟨Goes.refl _ _ _ _, trivial⟩ ?_
  · rw [argEnv_lk] at hx
    simp at hx
    obtain ⟨u, u1, u2⟩ := repVs_get hr t x hx
    refine ⟨u, ?_, u2⟩
    have hlt := lt_of_get u1
    show (vs.toArray ++ _)[t]? = some u
    rw [Array.getElem?_append_left (by simpa using hlt)]
    simpa using u1
  · intro pe ρ' H' G' w2 φ' a' hq hr2 hgm
    have fin : ∀ w', Sit G' w' φ' (hp H') → Goes G w φ (hp h) G' w' φ' (hp H') → (match resVs tt ρ' H' fn.results.toList with | some xs => finP H' h.length (resAll xs).plain R | none => False) → ∃ v, (results fn a'.tmps).run P w' = .ok v w' ∧ ∃ v1 r h' G1 φ1, Ending.returned v = .returned v1 ∧ R r h' ∧ h.length ≤ h'.length ∧ Sit G1 w' φ1 (hp h') ∧ Goes G w φ (hp h) G1 w' φ1 (hp h') ∧ r.rep G1 φ1 v1 := by
      intro w' hs' hg' hq
      split at hq
      · rename_i xs hxs
        obtain ⟨us, u1, u2⟩ := run_res (P := P) hP.tt hs' hr2.env hxs
        have hres : ∃ v, (results fn a'.tmps).run P w' = .ok v w' ∧ (resAll xs).rep G' φ' v := by
          refine ⟨if h : us.toArray.size = 1 then us.toArray[0] else .tuple us.toArray, ?_, ?_⟩
          · rw [results_eq, Array.mapM_eq_mapM_toList]
            simp only [Sem.run_bind, Sem.run_map, u1, Result.andThen_ok]
            rfl
          · have hl := repVs_len u2
            match xs, us, u2, hl with
            | [], [], u2, _ => exact ⟨[], rfl, rfl⟩
            | [x], [u], u2, _ =>
              obtain ⟨v, us', e, h1, h2⟩ := u2
              injection e with e1 e2; subst e1
              exact h1
            | x :: y :: zs, u :: v :: us', u2, _ => exact ⟨_, rfl, u2⟩
        obtain ⟨v, v1, v2⟩ := hres
        have v3 := V.plain_rep _ v v2
        unfold finP at hq
        split at hq
        · rename_i r' h' hr1 hh1
          obtain ⟨hnd, hR⟩ := condP_out hq
          have hnd := nodupB_spec hnd
          have hls := lent_sit (H := H') hs' hnd (fun i _ => rfl) hh1
          obtain ⟨hl, hget⟩ := obsAt_get hh1
          refine ⟨v, v1, v, r', h', G', lentLoc φ' (keepIds H' h.length (resAll xs).plain), rfl, hR, ?_, hls, ⟨hg'.le, fun i m z hz => ?_, hg'.os, hg'.tape, hg'.output, hg'.size, hg'.block, fun b hb => ?_⟩, V.ren_rep (lent_moves φ' _) _ _ _ hr1 v3⟩
          · rw [hl]; simp [keepIds]
          · have hi : i < h.length := by
              rcases Nat.lt_or_ge i h.length with h1 | h1
              · exact h1
              · rw [hs.un i (List.getElem?_eq_none h1) m] at hz; cases hz
            have e1 : (keepIds H' h.length (resAll xs).plain)[i]? = some i := by
              unfold keepIds
              rw [List.getElem?_append_left (by simpa using hi), List.getElem?_range hi]
            unfold lentLoc
            rw [e1]
            exact hg'.ple i m z hz
          · obtain ⟨i, ob, hi, ho⟩ := hb
            have hil := lt_of_get hi
            have e1 : (keepIds H' h.length (resAll xs).plain)[i]? = some (keepIds H' h.length (resAll xs).plain)[i] := List.getElem?_eq_getElem (by omega)
            obtain ⟨ob0, ob', g1, g2, g3⟩ := hget i _ e1
            have hi' : h'[i]? = some ob := hi
            rw [hi'] at g3; injection g3 with g3; subst g3
            refine hg'.owns b ⟨_, ob0, g1, ?_⟩
            rw [← Ob.ren_own (φ2 := lentLoc φ' (keepIds H' h.length (resAll xs).plain)) (i := i) (fun m => by unfold lentLoc; rw [e1]) g2]
            exact ho
        · exact hq.elim
      · exact hq.elim
    have out : (match resVs tt ρ' H' fn.results.toList with | some xs => finP H' h.length (resAll xs).plain R | none => False) → LeavesInM (Fr none) 0 P fn a'.tmps (fun e w' => ∃ v r h' G1 φ1, e = .returned v ∧ R r h' ∧ h.length ≤ h'.length ∧ Sit G1 w' φ1 (hp h') ∧ Goes G w φ (hp h) G1 w' φ1 (hp h') ∧ r.rep G1 φ1 v) a'.defers .returning w2 := fun hq =>
      marks_leave (fun w' hs' hg' => by rw [LeavesIn]; exact fin w' hs' hg' hq) a'.defers w2 hgm.mks hr2.sit hgm.go
    cases pe with
    | normal => exact out hq
    | exit id => exact hq.elim
    | goto l => exact hq.elim
    | ret => exact out hq
end
end Go.Proofs.YtblnfodnkacbbaaGreatDoor.Q

namespace Go.Proofs.YtblnfodnkacbbaaGreatDoor.Q
/-! ### what is lent is dead for the caller -/
def kill : List Ob → List Nat → List Ob
  | H, [] => H
  | H, i :: r => kill (H.set i .dead) r
theorem kill_len : ∀ (ids : List Nat) (H : List Ob), (kill H ids).length = H.length
  | [], H => rfl
  | i :: r, H => by rw [kill, kill_len r]; simp
theorem kill_get : ∀ (ids : List Nat) (H : List Ob) (i : Nat), (i ∈ ids → ∀ ob, (kill H ids)[i]? = some ob → ob = .dead) ∧ (i ∉ ids → (kill H ids)[i]? = H[i]?)
  | [], H, i => ⟨fun h => by simp at h, fun _ => rfl⟩
  | j :: r, H, i => by
    rw [kill]
    have ih := kill_get r (H.set j .dead) i
    refine ⟨fun h ob hob => ?_, fun h => ?_⟩
    · by_cases hr : i ∈ r
      · exact ih.1 hr ob hob
      · rw [ih.2 hr] at hob
        have : i = j := by simpa [hr] using h
        subst this
        rw [List.getElem?_set] at hob
        simp at hob
        exact hob.2.symm
    · simp at h
      rw [ih.2 h.2, List.getElem?_set, if_neg (fun e => h.1 e.symm)]
def noHist : List Ob → Bool
  | [] => true
  | ob :: r => match ob with | .hist _ => false | _ => noHist r
theorem noHist_get : ∀ {h : List Ob}, noHist h = true → ∀ (i : Nat) xs, h[i]? ≠ some (.hist xs)
  | [], _, i, xs, e => by simp at e
  | ob :: r, hn, i, xs, e => by
    unfold noHist at hn
    cases i with
    | zero => simp at e; subst e; simp at hn
    | succ i =>
      have : noHist r = true := by cases ob <;> first | exact hn | simp at hn
      exact noHist_get this i xs (by simpa using e)
theorem holds_any {A A' : Amb} {G : Imm} {w : World} {φ : Loc} {i : Nat} {ob : Ob} (hn : ∀ xs, ob ≠ .hist xs) (h : @Holds A G w φ i ob) : @Holds A' G w φ i ob := by
  cases ob with
  | hist xs => exact absurd rfl (hn xs)
  | _ => exact h
def PX.goes : PX → Bool
  | .normal => true
  | _ => false
def PX.code : PX → Option Code
  | .normal => none
  | .exit id => some (.exit id)
  | .goto l => some (.goto l)
  | .ret => some .ret
def roundEnv : List Tmp → List V → Env → Env
  | p :: ps, x :: xs, ρ => roundEnv ps xs ((p, x) :: ρ)
  | _, _, ρ => ρ
theorem roundEnv_ok [Amb] {G : Imm} {φ : Loc} : ∀ (ps : List Tmp) (xs : List V) (vs : List Value) (ρ : Env) (tm : Array Value), repVs G φ xs vs → (∀ p ∈ ps, p < tm.size) → EnvOk G φ ρ ⟨tm, []⟩ →
    EnvOk G φ (roundEnv ps xs ρ) ⟨(ps.zip vs).foldl (fun t (p, v) => t.setIfInBounds p v) tm, []⟩ ∧ ((ps.zip vs).foldl (fun t (p, v) => t.setIfInBounds p v) tm).size = tm.size
  | [], xs, vs, ρ, tm, _, _, he => by simp [roundEnv]; exact he
  | p :: ps, [], vs, ρ, tm, hr, _, he => by
    have : vs = [] := hr
    subst this
    simp [roundEnv]; exact he
  | p :: ps, x :: xs, vs, ρ, tm, hr, hp, he => by
    obtain ⟨u, us, rfl, h1, h2⟩ := hr
    have hpl := hp p List.mem_cons_self
    have := roundEnv_ok ps xs us ((p, x) :: ρ) (tm.setIfInBounds p u) h2 (fun q hq => by simpa using hp q (List.mem_cons_of_mem _ hq)) (fun t y hy => by
      rw [lk_put] at hy
      split at hy
      · rename_i e; subst e
        injection hy with hy; subst hy
        exact ⟨u, by simp [hpl], h1⟩
      · rename_i e
        obtain ⟨v, v1, v2⟩ := he t y hy
        refine ⟨v, ?_, v2⟩
        show (tm.setIfInBounds p u)[t]? = some v
        rw [Array.getElem?_setIfInBounds_ne e]; exact v1)
    refine ⟨?_, ?_⟩
    · simpa [roundEnv] using this.1
    · simpa using this.2

variable [Amb]
theorem Sit.putObj {G : Imm} {w : World} {φ : Loc} {H : Hp} (hs : Sit G w φ H) {D : Nat} {o o' : Obj} (h : w.heap[D]? = some o) (hc : ∀ k, w.cell? ⟨D, k, none⟩ = none) (hm : (∀ es clk, w.heap[D]? ≠ some (.map es clk)) ∧ ∀ cs T fr, w.heap[D]? ≠ some (.cells cs T fr)) (hn : ¬ ownS φ H D) : Sit G (w.putObj D o') φ H := by
  have hne : ∀ b k v, G b k = some v → b ≠ D := fun b k v hb e => by
    subst e
    rcases hs.inv.1 b k v hb with this | ⟨_, es, clk, this, _⟩ | ⟨_, cs, T, this, _⟩
    · have this := this.1; rw [hc] at this; cases this
    · exact hm.1 es clk this
    · exact hm.2 cs T _ this
  refine ⟨hs.inv.of (Imm.le.refl _) (fun b cs T fr hb h0 hG => putObj_heap w D _ (by obtain ⟨v, hv⟩ := Option.isSome_iff_exists.1 (hG 0 h0); exact hne b 0 v hv)) fun b k v hb => ?_, fun i ob hi => (hs.holds i ob hi).keep (Imm.le.refl _) (Loc.le.refl _) (fun _ => rfl) (by rw [World.putObj_size]; exact Nat.le_refl _) (fun b hb => ⟨putObj_heap w D _ (fun e => hn ⟨i, ob, hi, e ▸ hb⟩), fun _ => rfl⟩), hs.dist, hs.un⟩
  refine (hs.inv.1 b k v hb).go (Imm.le.refl _) (fun h6 => ?_) fun _ => putObj_heap w D _ (hne b k v hb)
  unfold World.cell? at h6 ⊢
  rw [putObj_heap w D _ (hne b k v hb)]
  exact h6
theorem map_loop {w : World} {D : Nat} {r : Loop} (h : w.heap[D]? = some (.loop r)) (es : Array MapEntry) (clk : Nat) : w.heap[D]? ≠ some (.map es clk) := by rw [h]; intro e; cases e
theorem maps_loop {w : World} {D : Nat} {r : Loop} (h : w.heap[D]? = some (.loop r)) : (∀ es clk, w.heap[D]? ≠ some (.map es clk)) ∧ ∀ cs T fr, w.heap[D]? ≠ some (.cells cs T fr) := ⟨map_loop h, fun cs T fr => by rw [h]; intro e; cases e⟩
theorem cell_loop {w : World} {D : Nat} {r : Loop} (h : w.heap[D]? = some (.loop r)) (k : Nat) : w.cell? ⟨D, k, none⟩ = none := by simp [World.cell?, h]
theorem Goes.putObj {G : Imm} {w : World} {φ : Loc} {H : Hp} {G' : Imm} {w' : World} {φ' : Loc} {H' : Hp} (hg : Goes G w φ H G' w' φ' H') {D : Nat} (o : Obj) (hD : D < w.heap.size) (hM : ∀ es clk, w.heap[D]? ≠ some (.map es clk)) : Goes G (w.putObj D o) φ H G' (w'.putObj D o) φ' H' where
  le := hg.le
  ple := hg.ple
  os := hg.os
  tape := hg.tape
  output := hg.output
  size := by rw [World.putObj_size, World.putObj_size]; exact hg.size
  block := fun b hb hn hm => by
    rw [World.putObj_size] at hb
    by_cases e : b = D
    · subst e
      refine ⟨?_, (hg.block b hb hn (fun ⟨_, es, clk, he⟩ => hM es clk he)).2⟩
      rw [World.putObj_heap_same hD, World.putObj_heap_same (Nat.lt_of_lt_of_le hD hg.size)]
    · have h1 := hg.block b hb hn (fun ⟨h1, es, clk, he⟩ => hm ⟨h1, es, clk, by rw [putObj_heap _ _ _ e]; exact he⟩)
      rw [putObj_heap _ _ _ e, putObj_heap _ _ _ e]; exact h1
  owns := fun b hb => by rw [World.putObj_size]; exact hg.owns b hb
theorem Mk.putObj {base : Nat} {w : World} {φ : Loc} {H : Hp} {D : Nat} (o : Obj) (hD : D < base) : ∀ {ds : List Deferred}, Mk base w φ H ds → Mk base (w.putObj D o) φ H ds
  | [], _ => trivial
  | d :: ds, ⟨⟨h0, D', h1, h2, h3, h4⟩, h5⟩ => ⟨⟨h0, D', h1, h2, (putObj_heap w D _ (by omega)).trans h3, h4⟩, Mk.putObj o hD h5⟩

/-- The caller, while the function that it ranges over runs. -/
structure Wait (G0 : Imm) (w0 : World) (φ0 : Loc) (H0 : Hp) (rec : LoopState → Option Code → Loop) (pe : PX) (H : List Ob) (G : Imm) (W : World) (B : Nat → Prop) (φ : Loc) : Prop where
  le : G0.le G
  ple : φ0.le φ
  holds : ∀ i ob, hp H i = some ob → Holds G W φ i ob
  dist : ∀ i j ob ob' b, i ≠ j → hp H i = some ob → hp H j = some ob' → Owns φ i ob b → Owns φ j ob' b → False
  un : ∀ i, hp H i = none → ∀ n, φ i n = none
  own : ∀ b, ownS φ (hp H) b → B b
  bl : B (w0.heap.size + 1)
  bD : B w0.heap.size
  lt : ∀ b, B b → b < W.heap.size
  frm : ∀ b, B b → ownS φ0 H0 b ∨ w0.heap.size ≤ b
  noD : ¬ ownS φ (hp H) w0.heap.size
  noL : ¬ ownS φ (hp H) (w0.heap.size + 1)
  hl : W.heap[w0.heap.size + 1]? = some (.loop (rec (bif pe.goes then .ready else .done) pe.code))
  hD : W.heap[w0.heap.size]? = some (.deferred (some []))
theorem Wait.stable {G0 : Imm} {w0 : World} {φ0 : Loc} {H0 : Hp} {rec : LoopState → Option Code → Loop} {pe : PX} {H : List Ob} {G G' : Imm} {W W' : World} {B : Nat → Prop} {φ : Loc}
    (h : Wait G0 w0 φ0 H0 rec pe H G W B φ) (hle : G.le G') (hsz : W.heap.size ≤ W'.heap.size) (hb : ∀ b, B b → ¬ memoB G W b → W'.heap[b]? = W.heap[b]? ∧ ∀ o, G' b o = G b o) : Wait G0 w0 φ0 H0 rec pe H G' W' B φ where
  le := h.le.trans hle
  ple := h.ple
  holds := fun i ob hi => (h.holds i ob hi).keepM hle (Loc.le.refl _) (fun _ => rfl) hsz fun b hbo hm => hb b (h.own b ⟨i, ob, hi, hbo⟩) hm
  dist := h.dist
  un := h.un
  own := h.own
  bl := h.bl
  bD := h.bD
  lt := fun b hB => by
    exact Nat.lt_of_lt_of_le (h.lt b hB) hsz
  frm := h.frm
  noD := h.noD
  noL := h.noL
  hl := (hb _ h.bl (fun ⟨_, es, clk, he⟩ => by rw [h.hl] at he; cases he)).1.trans h.hl
  hD := (hb _ h.bD (fun ⟨_, es, clk, he⟩ => by rw [h.hD] at he; cases he)).1.trans h.hD
section
variable {P : Program} {tt : TT} {n N : Nat} {ρ : Env} {H : List Ob} {Q : Post} {ps : Array Tmp} {assign body : Code} {fin : List (List V) → PX} {st : List (List V) → List Ob}
theorem roundPost_of {l : Nat} {R : Ending → World → Prop} (pe : PX) {a : Act} {w : World} (h : ∃ v w', (Instr.endRound l pe.code).run P w = .ok v w' ∧ R (.returned v) w') : roundPost P l R pe.to a w := by
  cases pe <;> exact h
/-- What a round must come to. -/
def roundQ (N l : Nat) (fin : List (List V) → PX) (st : List (List V) → List Ob) (xs : List (List V)) : Post := fun pe ρ H => fin xs = pe ∧ Le ⟨N, some l⟩ [] (st xs) ρ H
def noX : Post := fun _ _ _ => False
theorem wait_round {fn : FuncId} {tm : Array Value} {G0 : Imm} {w0 : World} {φ0 : Loc} {H0 : Hp} {rec : LoopState → Option Code → Loop} {G : Imm} {W : World} {B : Nat → Prop} {φ : Loc} {xs : List (List V)} {x : List V} {vs : List Value}
    (hst : ∀ xs, (st xs).length = N) (hps : ∀ p ∈ ps.toList, p < n) (htm : tm.size = n)
    (round : SWp P n ⟨N, some (w0.heap.size + 1)⟩ assign (roundEnv ps.toList x ρ) (st xs) (seqK (fun ρ1 H1 => SWp P n ⟨N, some (w0.heap.size + 1)⟩ body ρ1 H1 (roundQ N (w0.heap.size + 1) fin st (xs ++ [x]))) noX))
    (hlen : x.length = ps.size) (hgo : fin xs = .normal)
    (hw : Wait G0 w0 φ0 H0 rec (fin xs) (st xs) G W B φ) (hinv : Inv G W) (henv : EnvOk G0 φ0 ρ ⟨tm, []⟩) (hv : ∀ φ, repVs G φ x vs)
    (hrec : rec = fun st pe => { state := st, pending := pe, fn, tmps := tm, params := ps, assign, body, defers := w0.heap.size }) :
    ∃ f tmps as bd, (Instr.yield (w0.heap.size + 1) vs.toArray).run P W = .ok (.round (w0.heap.size + 1) f tmps as bd) W ∧ RoundIn Fence.wide 0 P (w0.heap.size + 1) f tmps as bd W fun e w' => ∃ (G' : Imm) (B' : Nat → Prop), e = .returned (.bool (fin (xs ++ [x])).goes) ∧ (∃ φ', Wait G0 w0 φ0 H0 rec (fin (xs ++ [x])) (st (xs ++ [x])) G' w' B' φ') ∧ Inv G' w' ∧ G.le G' ∧
      (w'.os = W.os ∧ w'.tape = W.tape ∧ w'.output = W.output ∧ W.heap.size ≤ w'.heap.size) ∧ (∀ b, B b → B' b) ∧ (∀ b, B' b → B b ∨ W.heap.size ≤ b) ∧ ∀ b, b < W.heap.size → ¬ B b → ¬ memoB G W b → w'.heap[b]? = W.heap[b]? ∧ ∀ o, G' b o = G b o := by
  have hl0 := hw.hl
  rw [hgo] at hl0
  have hvl := repVs_len (hv φ)
  have hy := run_yield (P := P) (args := vs.toArray) hl0 (by rw [hrec]; simp; omega)
  rw [hrec] at hy
  refine ⟨_, _, _, _, hy, roundIn_of_wpIn trivial ?_⟩
  have hlW := hw.lt _ hw.bl
  have hDW := hw.lt _ hw.bD
  have hsit : Sit G W φ (hp (st xs)) := ⟨hinv, hw.holds, hw.dist, hw.un⟩
  have h0 : ∀ i, N ≤ i → ∀ m, φ i m = none := fun i hi m => hw.un i (List.getElem?_eq_none (by rw [hst]; exact hi)) m
  have henv2 : EnvOk G φ ρ ⟨tm, []⟩ := henv.mono hw.le hw.ple
  obtain ⟨he3, hs3⟩ := roundEnv_ok ps.toList x vs ρ tm (hv φ) (fun p hp => by rw [htm]; exact hps p hp) henv2
  have ea : (ps.zip vs.toArray).foldl (fun tmps (x : Tmp × Value) => match x with | (t, a) => tmps.setIfInBounds t a) tm = (ps.toList.zip vs).foldl (fun t (p, v) => t.setIfInBounds p v) tm := by
    rw [← Array.foldl_toList, Array.toList_zip]
  rw [ea]
  refine round G W φ (hp (st xs)) G W φ _ _ h0 ⟨hsit, he3, hs3.trans htm⟩ ⟨Goes.refl _ _ _ _, trivial⟩ ?_
  intro pe ρ1 H1 G1 w1 φ1 a1 hq hr1 hg1
  cases pe with
  | exit id => exact hq.elim
  | goto l => exact hq.elim
  | ret => exact hq.elim
  | normal =>
    have hl1 := (hg1.go.block _ hlW hw.noL (fun ⟨_, es, clk, he⟩ => map_loop hl0 es clk he)).1.trans hl0
    refine ⟨_, run_beginRound hl1 (by rw [hrec]; rfl), ?_⟩
    have hbusy : ({ rec (bif PX.normal.goes then .ready else .done) PX.normal.code with state := .busy } : Loop) = rec .busy none := by rw [hrec]; rfl
    rw [hbusy]
    refine hq G (W.putObj (w0.heap.size + 1) (.loop (rec .busy none))) φ (hp (st xs)) G1 _ φ1 a1 _ h0 ⟨hr1.sit.putObj hl1 (cell_loop hl1) (maps_loop hl1) (fun ho => ?_), hr1.env, hr1.size⟩ ⟨hg1.go.putObj _ hlW (map_loop hl0), ?_⟩ ?_
    · rcases hg1.go.owns _ ho with h | h
      · exact hw.noL h
      · omega
    · rw [World.putObj_size]; exact hg1.mks.putObj _ hlW
    · intro pe ρ3 H3 G3 w3 φ3 a3 hfl hr3 hg3
      obtain ⟨hfin, hle⟩ := hfl
      obtain ⟨φ4, hr4, hg4⟩ := hr3.less h0 hg3 hle
      have hl3 := (hg4.go.block _ (by rw [World.putObj_size]; exact hlW) hw.noL (fun ⟨_, es, clk, he⟩ => by rw [World.putObj_heap_same hlW] at he; cases he)).1.trans (World.putObj_heap_same hlW)
      have hsz := hg4.go.size
      rw [World.putObj_size] at hsz
      have hnL : ¬ ownS φ4 (hp (st (xs ++ [x]))) (w0.heap.size + 1) := fun ho => by
        rcases hg4.go.owns _ ho with h | h
        · exact hw.noL h
        · rw [World.putObj_size] at h; omega
      have hst4 := hr4.sit.putObj (o' := .loop (rec (if pe.code.isNone then .ready else .done) pe.code)) hl3 (cell_loop hl3) (maps_loop hl3) hnL
      have hend := run_endRound (P := P) pe.code hl3
      have hrd : ({ rec .busy none with state := if pe.code.isNone then .ready else .done, pending := pe.code } : Loop) = rec (if pe.code.isNone then .ready else .done) pe.code := by rw [hrec]
      rw [hrd] at hend
      refine roundPost_of pe ⟨_, _, hend, G3, fun b => B b ∨ ownS φ4 (hp (st (xs ++ [x]))) b, ?_, ⟨φ4, ?_⟩, hst4.inv, hg4.go.le, ⟨hg4.go.os, hg4.go.tape, hg4.go.output, ?_⟩, fun b hb => .inl hb, fun b hb => ?_, fun b hb hn hm => ?_⟩
      · rw [hfin]; cases pe <;> rfl
      · exact {
          le := hw.le.trans hg4.go.le
          ple := hw.ple.trans hg4.go.ple
          holds := hst4.holds
          dist := hst4.dist
          un := hst4.un
          own := fun b hb => .inr hb
          bl := .inl hw.bl
          bD := .inl hw.bD
          lt := fun b hb => by
            rw [World.putObj_size]
            rcases hb with hb | ⟨i, ob, hi, ho⟩
            · exact Nat.lt_of_lt_of_le (hw.lt b hb) hsz
            · exact own_lt (hr4.sit.holds i ob hi) ho
          frm := fun b hb => by
            rcases hb with hb | hb
            · exact hw.frm b hb
            · rcases hg4.go.owns b hb with h | h
              · exact hw.frm b (hw.own b h)
              · rw [World.putObj_size] at h; right; omega
          noD := fun ho => by
            rcases hg4.go.owns _ ho with h | h
            · exact hw.noD h
            · rw [World.putObj_size] at h; omega
          noL := hnL
          hl := by
            rw [World.putObj_heap_same (Nat.lt_of_lt_of_le hlW hsz), hfin]
            cases pe <;> rfl
          hD := by
            rw [putObj_heap _ _ _ (by omega)]
            refine (hg4.go.block _ (by rw [World.putObj_size]; exact hDW) hw.noD (fun ⟨_, es, clk, he⟩ => by rw [putObj_heap _ _ _ (by omega), hw.hD] at he; cases he)).1.trans ?_
            rw [putObj_heap _ _ _ (by omega)]
            exact hw.hD }
      · rw [World.putObj_size]; exact hsz
      · rcases hb with hb | hb
        · exact .inl hb
        · rcases hg4.go.owns b hb with h | h
          · exact .inl (hw.own b h)
          · rw [World.putObj_size] at h; exact .inr h
      · have hne : b ≠ w0.heap.size + 1 := fun e => hn (e ▸ hw.bl)
        have h1 := hg4.go.block b (by rw [World.putObj_size]; exact hb) (fun ho => hn (hw.own b ho)) (fun ⟨h1, es, clk, he⟩ => hm ⟨h1, es, clk, by rw [putObj_heap _ _ _ hne] at he; exact he⟩)
        rw [putObj_heap _ _ _ hne] at h1 ⊢
        exact h1
theorem pending_of {pe : PX} {F : Fence} {m : Nat} {Qc : Exit → Act → World → Prop} {a : Act} {w : World} (h : Qc pe.to a w) : (match pe.code with | none => Qc .normal a w | some c => c.wpIn F m P Qc a w) := by
  cases pe with
  | normal => exact h
  | exit id => exact wpIn_exit h
  | goto l => exact wpIn_goto h
  | ret => exact wpIn_ret h
theorem alloc_lt (w : World) (o : Obj) {b : Nat} (h : b < w.heap.size) : (w.alloc o).heap[b]? = w.heap[b]? := by
  show (w.heap.push o)[b]? = _
  rw [Array.getElem?_push, if_neg (by omega)]
/-- What is asked of the function that is ranged over, whatever the surroundings. -/
def callRange (S : List (Nat × List Value)) (Mo : Imm → Value → Value → Value → Prop) (go : List (List V) → Bool) (ok : Program → List (List V) → Prop) (C : Amb → Prop) : Prop := ∀ A' : Amb, @Amb.tabs A' = S → @Amb.memo A' = Mo → @Amb.go A' = go → @Amb.ok A' = ok → C A'
/-- A range over a function: fin tells how the last round ends, st what the caller's objects are, okA what may be yielded, Z what has been yielded in the end. -/
theorem SWp.range {kk : Nat} {g : Operand} (f : FuncId) (cap : List V) (hg : ev ρ g = some (.fn (.func f) [] cap)) (hN : H.length = N)
    (hps : ∀ p ∈ ps.toList, p < n) (fin : List (List V) → PX) (h0 : fin [] = .normal) (okA : List (List V) → Prop) (hlen : ∀ xs x, okA (xs ++ [x]) → x.length = ps.size)
    (st : List (List V) → List Ob) (hst : ∀ xs, (st xs).length = N) (Z : List (List V) → Prop)
    (round : ∀ l xs x, okA (xs ++ [x]) → fin xs = .normal → SWp P n ⟨N, some l⟩ assign (roundEnv ps.toList x ρ) (st xs) (seqK (fun ρ1 H1 => SWp P n ⟨N, some l⟩ body ρ1 H1 (roundQ N l fin st (xs ++ [x]))) noX))
    (call : lendE H (plains cap) fun ids ys h => st [] = kill H ids ∧ noHist h = true ∧ callRange Amb.tabs Amb.memo (fun xs => (fin xs).goes) (fun P' xs => P' = P ∧ okA xs) fun A' =>
      @PCalls A' P f (.yld h.length :: ys) (h ++ [.hist []]) fun _ h' => ∃ xs obs, h' = obs ++ [.hist xs] ∧ obs.length = h.length ∧ Z xs)
    (after : ∀ xs, Z xs → Q (fin xs) ρ (st xs)) : SWp P n ⟨kk, none⟩ (.rangeFunc g ps assign body) ρ H Q := by
  intro G0 w0 φ0 H0 G w φ a Qc hk hr hgm hQ
  refine wpIn_rangeFunc ?_
  intro fn _
  obtain ⟨ids, ys, h, l1, l2, l3, hkill, hno, call⟩ := lendE_out call
  obtain ⟨rec, hrec⟩ : ∃ rec : LoopState → Option Code → Loop, rec = fun st pe => { state := st, pending := pe, fn, tmps := a.tmps, params := ps, assign, body, defers := w.heap.size } := ⟨_, rfl⟩
  obtain ⟨w1, hw1⟩ : ∃ w1, (w.alloc (.deferred (some []))).alloc (.loop (rec .ready none)) = w1 := ⟨_, rfl⟩
  have hsz1 : w1.heap.size = w.heap.size + 2 := by rw [← hw1]; simp
  have hlow : ∀ b, b < w.heap.size → w1.heap[b]? = w.heap[b]? := fun b hb => by
    rw [← hw1, alloc_lt _ _ (by simp; omega), alloc_lt _ _ hb]
  have hl1 : w1.heap[w.heap.size + 1]? = some (.loop (rec .ready none)) := by
    rw [← hw1]; have := World.alloc_heap_new (w.alloc (.deferred (some []))) (.loop (rec .ready none)); rwa [World.size_alloc] at this
  have hD1 : w1.heap[w.heap.size]? = some (.deferred (some [])) := by
    rw [← hw1, alloc_lt _ _ (by simp)]; exact World.alloc_heap_new w _
  have hworld : w1.os = w.os ∧ w1.tape = w.tape ∧ w1.output = w.output := by rw [← hw1]; exact ⟨rfl, rfl, rfl⟩
  have hinv1 : Inv G w1 := hr.sit.inv.of (Imm.le.refl _) (fun b cs T fr hb _ _ => hlow b (Array.getElem?_eq_some_iff.1 hb).1) fun b o v hb => by
    have hlt := (hr.sit.inv.1 b o v hb).lt
    refine (hr.sit.inv.1 b o v hb).go (Imm.le.refl _) (fun h1 => ?_) fun _ => hlow b hlt
    unfold World.cell? at h1 ⊢
    rw [hlow b hlt]; exact h1
  obtain ⟨o1, o2⟩ := obsAt_get l2
  have hls := lent_sit (H := H) hr.sit l3 (fun i _ => rfl) l2
  -- whose block a lent object's is
  have lentOwn : ∀ i ob b, (hp h) i = some ob → Owns (lentLoc φ ids) i ob b → ∃ j ob', j ∈ ids ∧ H[j]? = some ob' ∧ Owns φ j ob' b := fun i ob b hi ho => by
    have hil : i < ids.length := by rw [← o1]; exact lt_of_get hi
    have e1 : ids[i]? = some ids[i] := List.getElem?_eq_getElem hil
    obtain ⟨ob0, ob', g1, g2, g3⟩ := o2 i _ e1
    have hi' : h[i]? = some ob := hi
    rw [hi'] at g3; injection g3 with g3; subst g3
    refine ⟨_, ob0, List.getElem_mem hil, g1, ?_⟩
    rw [← Ob.ren_own (φ2 := lentLoc φ ids) (i := i) (fun m => by unfold lentLoc; rw [e1]) g2]
    exact ho
  have killOwn : ∀ i ob b, hp (st []) i = some ob → Owns φ i ob b → i ∉ ids ∧ H[i]? = some ob := fun i ob b hi ho => by
    rw [hkill] at hi
    have hi' : (kill H ids)[i]? = some ob := hi
    by_cases hm : i ∈ ids
    · rw [(kill_get ids H i).1 hm ob hi'] at ho; simp [Owns, own] at ho
    · rw [(kill_get ids H i).2 hm] at hi'; exact ⟨hm, hi'⟩
  have ownLt : ∀ b, ownS φ (hp H) b → b < w.heap.size := fun b ⟨i, ob, hi, ho⟩ => own_lt (hr.sit.holds i ob hi) ho
  have killS : ∀ b, ownS φ (hp (st [])) b → ownS φ (hp H) b := fun b ⟨i, ob, hi, ho⟩ => ⟨i, ob, (killOwn i ob b hi ho).2, ho⟩
  let B0 : Nat → Prop := fun b => ownS φ (hp (st [])) b ∨ b = w.heap.size + 1 ∨ b = w.heap.size
  have wait0 : Wait G w φ (hp H) rec (fin []) (st []) G w1 B0 φ := {
    le := Imm.le.refl _
    ple := Loc.le.refl _
    holds := fun i ob hi => by
      rw [hkill] at hi
      have hi' : (kill H ids)[i]? = some ob := hi
      by_cases hm : i ∈ ids
      · rw [(kill_get ids H i).1 hm ob hi']; trivial
      · rw [(kill_get ids H i).2 hm] at hi'
        exact (hr.sit.holds i ob hi').keep (Imm.le.refl _) (Loc.le.refl _) (fun _ => rfl) (by omega) fun b hb => ⟨hlow b (ownLt b ⟨i, ob, hi', hb⟩), fun _ => rfl⟩
    dist := fun i j ob ob' b hij h1 h2 k1 k2 => hr.sit.dist i j ob ob' b hij (killOwn i ob b h1 k1).2 (killOwn j ob' b h2 k2).2 k1 k2
    un := fun i hi m => hr.sit.un i (by
      have hi' : (st [])[i]? = none := hi
      rw [hkill] at hi'
      have := List.getElem?_eq_none_iff.1 hi'
      rw [kill_len] at this
      exact List.getElem?_eq_none this) m
    own := fun b hb => .inl hb
    bl := .inr (.inl rfl)
    bD := .inr (.inr rfl)
    lt := fun b hb => by
      rcases hb with hb | hb | hb
      · have := ownLt b (killS b hb); omega
      · omega
      · omega
    frm := fun b hb => by
      rcases hb with hb | hb | hb
      · exact .inl (killS b hb)
      · right; omega
      · right; omega
    noD := fun ho => by have := ownLt _ (killS _ ho); omega
    noL := fun ho => by have := ownLt _ (killS _ ho); omega
    hl := by rw [h0]; exact hl1
    hD := hD1 }
  let A' : PLift Amb := ⟨{
    tabs := Amb.tabs
    memo := Amb.memo
    memo_mono := Amb.memo_mono
    l := w.heap.size + 1
    J := fun xs G' W B => ∃ φc, Wait G w φ (hp H) rec (fin xs) (st xs) G' W B φc
    ok := fun P' xs => P' = P ∧ okA xs
    go := fun xs => (fin xs).goes
    lt := fun ⟨φc, hw⟩ => hw.lt
    stable := fun ⟨φc, hw⟩ hle hsz hb => ⟨φc, hw.stable hle hsz hb⟩
    yield := by
      rintro P' xs x G' W B vs ⟨rfl, hok⟩ hgo ⟨φc, hw⟩ hinv hv
      refine wait_round hst hps hr.size (round _ xs x hok ?_) (hlen xs x hok) ?_ hw hinv hr.env hv hrec <;>
      · rcases Nat.eq_zero_or_pos xs.length with h1 | h1
        · rw [List.eq_nil_of_length_eq_zero h1]; exact h0
        · have := hgo xs.length h1 (Nat.le_refl _)
          rw [List.take_length] at this
          revert this
          cases fin xs <;> simp [PX.goes] }⟩
  have hcall := call A'.down rfl rfl rfl rfl
  obtain ⟨⟨fd, f1, f2, f3⟩, hcall⟩ := hcall
  obtain ⟨us, vs, e1, e2, e3⟩ := ev_rep hr.env hg
  have e2 : us = [] := e2
  subst e2
  have hys : repVs G (lentLoc φ ids) ys vs := rens_rep (lent_moves φ ids) _ _ _ l1 (plains_rep _ _ e3)
  have hp0 : Classical.propDecidable = Classical.propDecidable := rfl
  let φ1 : Loc := fun i m => if i = h.length then (match m with | 0 => some (some (w.heap.size + 1, 0), 0) | b + 1 => @ite _ (B0 b) (Classical.propDecidable _) (some (none, 0)) none) else lentLoc φ ids i m
  have φ1ne : ∀ i, i ≠ h.length → ∀ m, φ1 i m = lentLoc φ ids i m := fun i hi m => by simp only [φ1, if_neg hi]
  have φ10 : φ1 h.length 0 = some (some (w.heap.size + 1, 0), 0) := by simp [φ1]
  have φ1B : ∀ b, (φ1 h.length (b + 1)).isSome = true ↔ B0 b := fun b => by
    simp only [φ1, if_pos]
    by_cases hb : B0 b
    · simp [hb]
    · simp [hb]
  have φ1F : (fun b => (φ1 h.length (b + 1)).isSome = true) = B0 := by funext b; exact propext (φ1B b)
  have lle : (lentLoc φ ids).le φ1 := fun i m z hz => by
    by_cases e : i = h.length
    · subst e
      unfold lentLoc at hz
      rw [List.getElem?_eq_none (by omega)] at hz; cases hz
    · rw [φ1ne i e]; exact hz
  have get1 : ∀ i ob, hp (h ++ [.hist []]) i = some ob → (i < h.length ∧ hp h i = some ob) ∨ (i = h.length ∧ ob = .hist []) := fun i ob hi => by
    have hi' : (h ++ [Ob.hist []])[i]? = some ob := hi
    rcases Nat.lt_trichotomy i h.length with h1 | h1 | h1
    · rw [List.getElem?_append_left h1] at hi'; exact .inl ⟨h1, hi'⟩
    · subst h1
      rw [List.getElem?_append_right (Nat.le_refl _)] at hi'
      simp at hi'; exact .inr ⟨rfl, hi'.symm⟩
    · rw [List.getElem?_eq_none (by simp; omega)] at hi'; cases hi'
  have own1 : ∀ i ob b, hp (h ++ [.hist []]) i = some ob → Owns φ1 i ob b → (∃ j ob', i < h.length ∧ j ∈ ids ∧ H[j]? = some ob' ∧ Owns φ j ob' b) ∨ (i = h.length ∧ B0 b) := fun i ob b hi ho => by
    rcases get1 i ob hi with ⟨h1, h2⟩ | ⟨h1, h2⟩
    · rw [own_le (φ1ne i (by omega))] at ho
      obtain ⟨j, ob', j1, j2, j3⟩ := lentOwn i ob b h2 ho
      exact .inl ⟨j, ob', h1, j1, j2, j3⟩
    · subst h1; subst h2
      exact .inr ⟨rfl, (φ1B b).1 ho⟩
  have clash : ∀ j ob' b, j ∈ ids → H[j]? = some ob' → Owns φ j ob' b → B0 b → False := fun j ob' b j1 j2 j3 hb => by
    have hlt := ownLt b ⟨j, ob', j2, j3⟩
    rcases hb with ⟨i, ob, hi, ho⟩ | hb | hb
    · obtain ⟨k1, k2⟩ := killOwn i ob b hi ho
      exact hr.sit.dist i j ob ob' b (fun e => k1 (e ▸ j1)) k2 j2 ho j3
    · omega
    · omega
  have hsit1 : @Sit A'.down G w1 φ1 (hp (h ++ [.hist []])) := by
    refine @Sit.mk A'.down _ _ _ _ hinv1 (fun i ob hi => ?_) (fun i j ob ob' b hij h1 h2 k1 k2 => ?_) (fun i hi m => ?_)
    · rcases get1 i ob hi with ⟨h1, h2⟩ | ⟨h1, h2⟩
      · refine holds_any (A := ‹Amb›) (fun xs e => noHist_get hno i xs (e ▸ h2)) ?_
        exact (hls.holds i ob h2).keep (Imm.le.refl _) lle (φ1ne i (by omega)) (by omega) fun b hb => ⟨hlow b (own_lt (hls.holds i ob h2) hb), fun _ => rfl⟩
      · subst h1; subst h2
        refine ⟨⟨0, φ10⟩, φ, ?_⟩
        rw [φ1F]; exact wait0
    · rcases own1 i ob b h1 k1 with ⟨j1, ob1, a1, a2, a3, a4⟩ | ⟨a1, a2⟩
      · rcases own1 j ob' b h2 k2 with ⟨j2, ob2, b1, b2, b3, b4⟩ | ⟨b1, b2⟩
        · rcases get1 i ob h1 with ⟨c1, c2⟩ | ⟨c1, c2⟩
          · rcases get1 j ob' h2 with ⟨d1, d2⟩ | ⟨d1, d2⟩
            · rw [own_le (φ1ne i (by omega))] at k1
              rw [own_le (φ1ne j (by omega))] at k2
              exact hls.dist i j ob ob' b hij c2 d2 k1 k2
            · omega
          · omega
        · exact clash j1 ob1 b a2 a3 a4 b2
      · rcases own1 j ob' b h2 k2 with ⟨j2, ob2, b1, b2, b3, b4⟩ | ⟨b1, b2⟩
        · exact clash j2 ob2 b b2 b3 b4 a2
        · omega
    · have hi' : (h ++ [Ob.hist []])[i]? = none := hi
      have := List.getElem?_eq_none_iff.1 hi'
      simp at this
      rw [φ1ne i (by omega)]
      unfold lentLoc
      rw [List.getElem?_eq_none (by omega)]
  refine ⟨w.heap.size + 1, [{ target := .collected w.heap.size, args := #[] }], w1, { target := .fn (.func f) vs.toArray, args := #[.func (.yield (w.heap.size + 1)) #[] #[]] }, w1, f,
    #[.func (.yield (w.heap.size + 1)) #[] #[]] ++ vs.toArray, w1, ?_, ?_, fun _ _ => trivial, ?_, fun hh => by simp [Fr, Fence.wide] at hh, ?_⟩
  · rw [← hw1, hrec]; exact run_enterLoop_outer _ _ _ _ _
  · simp only [resolve, e1]
    simp [go_sem]
  · simp only [Sem.run_bind, invoke, callFunc, run_program, f1, f2, f3, Bool.false_eq_true, if_false, Result.andThen_ok]
    rfl
  · have hargs : #[Value.func (.yield (w.heap.size + 1)) #[] #[]] ++ vs.toArray = (Value.func (.yield (w.heap.size + 1)) #[] #[] :: vs).toArray := by simp
    rw [hargs]
    refine (callsIn_wide (n := 0)).2 ((hcall G w1 φ1 _ hsit1 ⟨_, _, rfl, ⟨_, _, φ10, rfl⟩, repVs_mono (Imm.le.refl _) lle _ _ hys⟩).mono ?_)
    rintro e w' ⟨v, r, h', G', φ', rfl, ⟨xs, obs, rfl, hol, hZ⟩, hlen', hs', hg', _⟩
    obtain ⟨_, φc, W⟩ := @Sit.holds A'.down _ _ _ _ hs' h.length (.hist xs) (by show (obs ++ [Ob.hist xs])[h.length]? = _; rw [List.getElem?_append_right (by omega), hol]; simp)
    have hst3 : Sit G' w' φc (hp (st xs)) := ⟨@Sit.inv A'.down _ _ _ _ hs', W.holds, W.dist, W.un⟩
    have hpen : (rec (bif (fin xs).goes then .ready else .done) (fin xs).code).pending = (fin xs).code := by rw [hrec]
    obtain ⟨o4, hend⟩ : ∃ o4, (Instr.endLoop (w.heap.size + 1)).run P w' = .ok (fin xs).code (w'.putObj (w.heap.size + 1) o4) :=
      ⟨_, (run_endLoop (P := P) W.hl (by rw [hrec]; cases fin xs <;> simp [PX.goes])).trans (by rw [hpen])⟩
    have hszs := hg'.size
    have hgo : Goes G w φ (hp H) G' w' φc (hp (st xs)) := {
      le := W.le
      ple := W.ple
      os := hg'.os.trans hworld.1
      tape := hg'.tape.trans hworld.2.1
      output := hg'.output.trans hworld.2.2
      size := by omega
      block := fun b hb hn hm => by
        have h1 := hg'.block b (by omega) (fun ⟨i, ob, hi, ho⟩ => by
          rcases own1 i ob b hi ho with ⟨j, ob', _, _, j2, j3⟩ | ⟨_, hB | hB | hB⟩
          · exact hn ⟨j, ob', j2, j3⟩
          · exact hn (killS b hB)
          · omega
          · omega) (fun ⟨h1, es, clk, he⟩ => hm ⟨h1, es, clk, by rw [hlow b hb] at he; exact he⟩)
        exact ⟨h1.1.trans (hlow b hb), h1.2⟩
      owns := fun b hb => W.frm b (W.own b hb) }
    have hlt' : w.heap.size + 1 < w'.heap.size := by omega
    have hgo4 : Goes G w φ (hp H) G' (w'.putObj (w.heap.size + 1) o4) φc (hp (st xs)) :=
      ⟨hgo.le, hgo.ple, hgo.os, hgo.tape, hgo.output, by rw [World.putObj_size]; exact hgo.size, fun b hb hn hm => ⟨(putObj_heap _ _ _ (by omega)).trans (hgo.block b hb hn hm).1, (hgo.block b hb hn hm).2⟩, hgo.owns⟩
    have hmk := (hgm.mks.goes hgo4)
    refine ⟨_, _, hend, pending_of (hQ (fin xs) ρ (st xs) G' _ φc _ (after xs hZ) ⟨hst3.putObj W.hl (cell_loop W.hl) (maps_loop W.hl) W.noL, fun t x hx => (hr.env.mono W.le W.ple) t x hx, hr.size⟩ ⟨hgm.go.trans hgo4, ?_⟩)⟩
    refine ⟨⟨fun hin => ?_, w.heap.size, rfl, hgm.go.size, ?_, W.noD⟩, hmk⟩
    · have : ∀ (ds : List Deferred), Mk w0.heap.size w φ (hp H) ds → ({ target := .collected w.heap.size, args := #[] } : Deferred) ∈ ds → False := by
        intro ds
        induction ds with
        | nil => intro _ hm; simp at hm
        | cons d ds ih =>
          rintro ⟨⟨_, D', k1, _, k3, _⟩, k5⟩ hm
          rcases List.mem_cons.1 hm with hm | hm
          · subst hm
            injection k1 with k1
            injection k1 with k1
            have := (Array.getElem?_eq_some_iff.1 k3).1
            omega
          · exact ih k5 hm
      exact this _ hgm.mks hin
    · rw [putObj_heap _ _ _ (by omega)]; exact W.hD
end
end Go.Proofs.YtblnfodnkacbbaaGreatDoor.Q

namespace Go.Proofs.YtblnfodnkacbbaaGreatDoor.Q
variable [Amb]
section
variable {P : Program} {tt : TT} {n : Nat} {k : Md} {ρ : Env} {H : List Ob} {Q : Post}
theorem hp_snoc (H : List Ob) (ob : Ob) (i : Nat) : hp (H ++ [ob]) i = if i = H.length then some ob else hp H i := by
  unfold hp
  rw [List.getElem?_append]
  by_cases h : i < H.length
  · rw [if_pos h, if_neg (by omega)]
  · rw [if_neg h]
    by_cases e : i = H.length
    · subst e; simp
    · rw [if_neg e, List.getElem?_eq_none (by simp; omega), List.getElem?_eq_none (by omega)]
theorem tip_own (φ : Loc) (i e m : Nat) (A : Option (Nat × Nat)) (b : Nat) : Owns (setLoc φ i m (A, m)) i (.tip e m) b = False := by
  simp only [Owns, own, setLoc_same]
  cases A with
  | none => simp
  | some p => simp
theorem Sit.tip {G : Imm} {w : World} {φ : Loc} (hs : Sit G w φ (hp H)) (e m : Nat) (A : Option (Nat × Nat)) : Sit G w (setLoc φ H.length m (A, m)) (hp (H ++ [Ob.tip e m])) := by
  have hn : hp H H.length = none := by simp [hp]
  have hφ := hs.un _ hn
  have hple : φ.le (setLoc φ H.length m (A, m)) := setLoc_le (hφ m)
  have hown : ∀ i ob, i ≠ H.length → Owns (setLoc φ H.length m (A, m)) i ob = Owns φ i ob := fun i ob hi => own_le fun q => setLoc_ne hi
  refine ⟨hs.inv, fun i ob hi => ?_, fun i j ob ob' b hij hi hj hbi hbj => ?_, fun i hi q => ?_⟩
  · rw [hp_snoc] at hi
    split at hi
    · rename_i he
      subst he
      injection hi with hi; subst hi
      exact ⟨A, m, setLoc_same .., Nat.le_refl _, fun q hq => by
        unfold setLoc
        rw [if_neg (by omega)]
        exact hφ q, fun hc => absurd hc (by omega)⟩
    · rename_i he
      exact (hs.holds i ob hi).keep (Imm.le.refl _) hple (fun q => setLoc_ne he) (Nat.le_refl _) (fun b _ => ⟨rfl, fun _ => rfl⟩)
  · rw [hp_snoc] at hi hj
    split at hi
    · rename_i he; subst he
      injection hi with hi; subst hi
      rw [tip_own] at hbi; cases hbi
    · rename_i he
      split at hj
      · rename_i he'; subst he'
        injection hj with hj; subst hj
        rw [tip_own] at hbj; cases hbj
      · rename_i he'
        rw [hown i ob he] at hbi
        rw [hown j ob' he'] at hbj
        exact hs.dist i j ob ob' b hij hi hj hbi hbj
  · rw [hp_snoc] at hi
    split at hi
    · cases hi
    · rename_i he
      rw [setLoc_ne he]
      exact hs.un i hi q
theorem Goes.tip {G1 G : Imm} {w1 w : World} {φ1 φ : Loc} {H1 : Hp} (hs : Sit G w φ (hp H)) (hg : Goes G1 w1 φ1 H1 G w φ (hp H)) (e m : Nat) (A : Option (Nat × Nat)) : Goes G1 w1 φ1 H1 G w (setLoc φ H.length m (A, m)) (hp (H ++ [Ob.tip e m])) := by
  have hn : hp H H.length = none := by simp [hp]
  refine ⟨hg.le, hg.ple.trans (setLoc_le (hs.un _ hn m)), hg.os, hg.tape, hg.output, hg.size, hg.block, fun b hb => ?_⟩
  obtain ⟨i, ob, hi, ho⟩ := hb
  rw [hp_snoc] at hi
  split at hi
  · rename_i he; subst he
    injection hi with hi; subst hi
    rw [tip_own] at ho; cases ho
  · rename_i he
    exact hg.owns b ⟨i, ob, hi, by rw [own_le (φ := φ) (φ' := setLoc φ H.length m (A, m)) (fun q => setLoc_ne he)] at ho; exact ho⟩
/-- A slot's slice, as long as its room: it may grow. -/
theorem SWp.tipSlot {c : Code} (t e : Nat) {rows : List (List D)} (ht : lk ρ t = some (.fsl rows)) (h : SWp P n k c ((t, .gsl rows H.length) :: ρ) (H ++ [Ob.tip e rows.length]) Q) : SWp P n k c ρ H Q := by
  intro G1 w1 φ1 H1 G w φ a Qc h0 hr hg hQ
  obtain ⟨v, hv, A, rfl, hA⟩ := hr.env t _ ht
  have hple : φ.le (setLoc φ H.length rows.length (A, rows.length)) := setLoc_le (hr.sit.un _ (by simp [hp]) _)
  refine h G1 w1 φ1 H1 G w (setLoc φ H.length rows.length (A, rows.length)) a Qc h0 ⟨hr.sit.tip e rows.length A, fun u x hx => ?_, hr.size⟩ (hg.trans (Goes.tip hr.sit (Goes.refl _ _ _ _) e rows.length A) rfl) hQ
  rw [lk_put] at hx
  split at hx
  · rename_i hu; subst hu
    injection hx with hx; subst hx
    exact ⟨_, hv, A, rows.length, setLoc_same .., rfl, Nat.le_refl _, hA⟩
  · obtain ⟨v, h1, h2⟩ := hr.env u x hx
    exact ⟨v, h1, x.rep_mono (Imm.le.refl _) hple v h2⟩
theorem hp_set {H : List Ob} {i : Nat} {ob : Ob} (h : i < H.length) (j : Nat) : hp (H.set i ob) j = if j = i then some ob else hp H j := by
  unfold hp
  rw [List.getElem?_set]
  by_cases e : i = j
  · subst e; simp [h]
  · rw [if_neg e, if_neg (Ne.symm e)]
theorem Goes.retell {G1 G : Imm} {w1 w : World} {φ1 φ : Loc} {H1 : Hp} (hg : Goes G1 w1 φ1 H1 G w φ (hp H)) (i : Nat) {cells cells' : List V} (hi : H[i]? = some (.box cells)) : Goes G1 w1 φ1 H1 G w φ (hp (H.set i (.box cells'))) := by
  refine ⟨hg.le, hg.ple, hg.os, hg.tape, hg.output, hg.size, hg.block, fun b hb => ?_⟩
  obtain ⟨j, ob, hj, ho⟩ := hb
  rw [hp_set (lt_of_get hi)] at hj
  split at hj
  · rename_i he; subst he
    injection hj with hj; subst hj
    exact hg.owns b ⟨j, _, hi, ho⟩
  · exact hg.owns b ⟨j, ob, hj, ho⟩
/-- A box's slice, as long as its room: it may grow. -/
theorem SWp.tipBox {c : Code} (i j e : Nat) {cells : List V} {rows : List (List D)} (hi : H[i]? = some (.box cells)) (hj : cells[j]? = some (.fsl rows)) (h : SWp P n k c ρ ((H ++ [Ob.tip e rows.length]).set i (.box (cells.set j (.gsl rows H.length)))) Q) : SWp P n k c ρ H Q := by
  intro G1 w1 φ1 H1 G w φ a Qc h0 hr hg hQ
  obtain ⟨b, c', T, us, h1, h2, h3, h4, h5⟩ := hr.sit.holds i _ hi
  obtain ⟨v, hv, A, rfl, hA⟩ := repVs_get h3 j _ hj
  have hlt := lt_of_get hi
  have hple : φ.le (setLoc φ H.length rows.length (A, rows.length)) := setLoc_le (hr.sit.un _ (by simp [hp]) _)
  have hi' : (H ++ [Ob.tip e rows.length])[i]? = some (.box cells) := by rw [List.getElem?_append, if_pos hlt]; exact hi
  have hs' := hr.sit.tip e rows.length A
  have hφi : setLoc φ H.length rows.length (A, rows.length) i 0 = φ i 0 := setLoc_ne (by omega)
  have hs2 : Sit G w (setLoc φ H.length rows.length (A, rows.length)) (hp ((H ++ [Ob.tip e rows.length]).set i (.box (cells.set j (.gsl rows H.length))))) := by
    refine ⟨hs'.inv, fun l ob hl => ?_, fun i' l ob ob' b hij hi2 hl hbi hbl => ?_, fun l hl q => ?_⟩
    · rw [hp_set (by simp; omega)] at hl
      split at hl
      · rename_i he; subst he
        injection hl with hl; subst hl
        refine ⟨b, c', T, us, by rw [hφi]; exact h1, h2, ?_, h4, h5⟩
        refine repVs_of (by simp [repVs_len h3]) fun m x u hm hu => ?_
        rw [List.getElem?_set] at hm
        split at hm
        · rename_i hjm; subst hjm
          split at hm
          · injection hm with hm; subst hm
            rw [hv] at hu; injection hu with hu; subst hu
            exact ⟨A, rows.length, setLoc_same .., rfl, Nat.le_refl _, hA⟩
          · cases hm
        · obtain ⟨u', e1, e2⟩ := repVs_get h3 m x hm
          rw [e1] at hu; injection hu with hu; subst hu
          exact x.rep_mono (Imm.le.refl _) hple _ e2
      · exact hs'.holds l ob hl
    · have key : ∀ j' ob b, hp ((H ++ [Ob.tip e rows.length]).set i (.box (cells.set j (.gsl rows H.length)))) j' = some ob → Owns (setLoc φ H.length rows.length (A, rows.length)) j' ob b → ∃ ob0, hp (H ++ [Ob.tip e rows.length]) j' = some ob0 ∧ Owns (setLoc φ H.length rows.length (A, rows.length)) j' ob0 b := by
        intro j' ob b hj' hb
        rw [hp_set (by simp; omega)] at hj'
        split at hj'
        · rename_i he; subst he
          injection hj' with hj'; subst hj'
          exact ⟨_, hi', hb⟩
        · exact ⟨ob, hj', hb⟩
      obtain ⟨o1, a1, a2⟩ := key _ _ _ hi2 hbi
      obtain ⟨o2, b1, b2⟩ := key _ _ _ hl hbl
      exact hs'.dist i' l o1 o2 b hij a1 b1 a2 b2
    · rw [hp_set (by simp; omega)] at hl
      split at hl
      · cases hl
      · exact hs'.un l hl q
  refine h G1 w1 φ1 H1 G w (setLoc φ H.length rows.length (A, rows.length)) a Qc h0 ⟨hs2, fun u x hx => ?_, hr.size⟩ (hg.trans ((Goes.tip hr.sit (Goes.refl _ _ _ _) e rows.length A).retell i hi') rfl) hQ
  obtain ⟨v, h1, h2⟩ := hr.env u x hx
  exact ⟨v, h1, x.rep_mono (Imm.le.refl _) hple v h2⟩
/-- An array that is written no more: its cells are known for good. -/
theorem Sit.freeze {G : Imm} {w : World} {φ : Loc} (hs : Sit G w φ (hp H)) (i : Nat) {e : Nat} {rows : List (List D)} (hi : H[i]? = some (.parr e rows)) :
    ∃ G' : Imm, G.le G' ∧ Sit G' w φ (hp (H.set i .dead)) ∧ (∀ v, (V.arr i 0 rows.length).rep G φ v → (V.d (.sl rows)).rep G' φ v) ∧
      ∀ G1 w1 φ1 H1, Goes G1 w1 φ1 H1 G w φ (hp H) → Goes G1 w1 φ1 H1 G' w φ (hp (H.set i .dead)) := by
  obtain ⟨b, T, us, h1, h2, h3, h4, h5⟩ := hs.holds i _ hi
  have hlt := lt_of_get hi
  have hown : Owns φ i (.parr e rows) b := by simp [Owns, own, h1]
  have hG : ∀ b', b' ≠ b → ∀ o, addBlk G b (us.take (rows.length * e)) b' o = G b' o := fun b' hb o => by unfold addBlk; rw [if_neg hb]
  have hle : G.le (addBlk G b (us.take (rows.length * e))) := addBlk_le h5 _
  have hrows : RowsIn G (us.take (rows.length * e)) e rows := ⟨by rw [List.length_take]; omega, fun m r hm => ⟨(h4 m r hm).1, fun j d hj => by
    obtain ⟨u, u1, u2⟩ := (h4 m r hm).2 j d hj
    refine ⟨u, ?_, u2⟩
    have h6 := lt_of_get hm
    have h7 := lt_of_get hj
    have h8 : (m + 1) * e ≤ rows.length * e := Nat.mul_le_mul_right _ h6
    rw [Nat.add_mul] at h8
    have h9 := (h4 m r hm).1
    rw [List.getElem?_take, if_pos (by omega)]; exact u1⟩⟩
  have hset : ∀ j ob, hp (H.set i .dead) j = some ob → (j = i ∧ ob = .dead) ∨ (j ≠ i ∧ hp H j = some ob) := fun j ob hj => by
    rw [hp_set hlt] at hj
    split at hj
    · rename_i he; injection hj with hj; exact .inl ⟨he, hj.symm⟩
    · rename_i he; exact .inr ⟨he, hj⟩
  refine ⟨addBlk G b (us.take (rows.length * e)), hle, ⟨hs.inv.of hle (fun _ _ _ _ _ _ _ => rfl) fun b' o v hg => ?_, fun j ob hj => ?_, fun j j' ob ob' b' hjj hj hj' hb hb' => ?_, fun j hj q => ?_⟩, ?_, fun G1 w1 φ1 H1 hg => ?_⟩
  · unfold addBlk at hg
    split at hg
    · rename_i hb; subst hb
      refine .inl ⟨?_, hrows.one _ (List.mem_of_getElem? hg)⟩
      rw [cell_us w h2]
      rw [List.getElem?_take] at hg
      split at hg
      · exact hg
      · cases hg
    · exact (hs.inv.1 b' o v hg).go hle (fun x => x) fun _ => rfl
  · rcases hset j ob hj with ⟨rfl, rfl⟩ | ⟨hne, hj⟩
    · trivial
    · refine (hs.holds j ob hj).keep hle (Loc.le.refl _) (fun _ => rfl) (Nat.le_refl _) fun b' hb => ⟨rfl, hG b' fun e' => ?_⟩
      subst e'
      exact hs.dist j i ob _ b' hne hj hi hb hown
  · rcases hset j ob hj with ⟨rfl, rfl⟩ | ⟨hne, hj⟩
    · simp [Owns, own] at hb
    · rcases hset j' ob' hj' with ⟨rfl, rfl⟩ | ⟨hne', hj'⟩
      · simp [Owns, own] at hb'
      · exact hs.dist j j' ob ob' b' hjj hj hj' hb hb'
  · rw [hp_set hlt] at hj
    split at hj
    · cases hj
    · exact hs.un j hj q
  · rintro v ⟨b', c, k1, k, k2, rfl⟩
    rw [h1] at k1; injection k1 with k1; injection k1 with k1 k1'; injection k1 with k1; injection k1 with k1; subst k1; subst k1'
    refine ⟨some ⟨b, 0, none⟩, k, by simp, k2, fun _ => ⟨b, 0, e, rfl, repRows_of fun m r hm => ⟨(h4 m r hm).1, repRow_of fun j d hj => ?_⟩⟩⟩
    obtain ⟨u, u1, u2⟩ := (hrows.2 m r hm).2 j d hj
    refine ⟨u, ?_, d.rep_mono hle u u2⟩
    unfold addBlk
    rw [if_pos rfl, Nat.zero_add]; exact u1
  · refine ⟨hg.le.trans hle, hg.ple, hg.os, hg.tape, hg.output, hg.size, fun b' hb hn hm => ⟨(hg.block b' hb hn hm).1, fun o => ?_⟩, fun b' hb => ?_⟩
    · have hne : b' ≠ b := fun e' => by
        subst e'
        rcases hg.owns b' ⟨i, _, hi, hown⟩ with h | h
        · exact hn h
        · omega
      rw [hG b' hne o]; exact (hg.block b' hb hn hm).2 o
    · obtain ⟨j, ob, hj, ho⟩ := hb
      rcases hset j ob hj with ⟨rfl, rfl⟩ | ⟨hne, hj⟩
      · simp [Owns, own] at ho
      · exact hg.owns b' ⟨j, ob, hj, ho⟩
/-- A call that is given an array and only reads it. -/
theorem PCalls.freeze {f : FuncId} {args : List V} {h : List Ob} {R : V → List Ob → Prop} (j i : Nat) {e : Nat} {rows : List (List D)} (hj : args[j]? = some (.arr i 0 rows.length)) (hi : h[i]? = some (.parr e rows))
    (c : PCalls P f (args.set j (.d (.sl rows))) (h.set i .dead) R) : PCalls P f args h R := by
  refine ⟨c.1, fun G w φ vs hs hr => ?_⟩
  obtain ⟨G', hle, hs', hv, hg⟩ := hs.freeze i hi
  obtain ⟨v, v1, v2⟩ := repVs_get hr j _ hj
  have hr' : repVs G' φ (args.set j (.d (.sl rows))) vs := by
    have := repVs_set (repVs_mono hle (Loc.le.refl _) _ _ hr) j (hv v v2)
    have e1 : vs.set j v = vs := by
      refine List.ext_getElem? fun m => ?_
      rw [List.getElem?_set]
      split
      · rename_i hjm; subst hjm; rw [if_pos (lt_of_get v1), v1]
      · rfl
    rwa [e1] at this
  refine (c.2 G' w φ vs hs' hr').mono fun e w' ⟨v, r, h', G2, φ', h1, h2, h3, h4, h5, h6⟩ => ⟨v, r, h', G2, φ', h1, h2, by simpa using h3, h4, (hg _ _ _ _ (Goes.refl _ _ _ _)).trans h5, h6⟩
/-- The same, of a slot. -/
theorem SWp.freeze {c : Code} (t i : Nat) {e : Nat} {rows : List (List D)} (ht : lk ρ t = some (.arr i 0 rows.length)) (hi : H[i]? = some (.parr e rows)) (h : SWp P n k c ((t, .d (.sl rows)) :: ρ) (H.set i .dead) Q) : SWp P n k c ρ H Q := by
  intro G1 w1 φ1 H1 G w φ a Qc h0 hr hg hQ
  obtain ⟨v, hv, hvr⟩ := hr.env t _ ht
  obtain ⟨G', hle, hs', hv', hg'⟩ := hr.sit.freeze i hi
  refine h G1 w1 φ1 H1 G' w φ a Qc h0 ⟨hs', fun u x hx => ?_, hr.size⟩ (hg.trans (hg' _ _ _ _ (Goes.refl _ _ _ _)) rfl) hQ
  rw [lk_put] at hx
  split at hx
  · rename_i hu; subst hu
    injection hx with hx; subst hx
    exact ⟨v, hv, hv' v hvr⟩
  · obtain ⟨v, h1, h2⟩ := hr.env u x hx
    exact ⟨v, h1, x.rep_mono hle (Loc.le.refl _) v h2⟩
/-- A call that is lent nothing leaves all objects as they are. -/
theorem PFun.frame {f : FuncId} {args : List V} {r : V} {h : List Ob} {R : V → List Ob → Prop} (c : PFun P f args [] r []) (ha : rens (pos []) args = some args) (hr : r.ren (back [] h.length) = some r) (k : R r h) : PCalls P f args h R := by
  refine ⟨c.1, fun G w φ vs hs hv => ?_⟩
  have ho : obsAt h (pos []) [] = some [] := rfl
  have hls := lent_sit (H := h) hs List.nodup_nil (fun i hi => by simp at hi) ho
  refine (c.2 G w (lentLoc φ []) vs hls (rens_rep (lent_moves φ []) _ _ _ ha hv)).mono fun e w' ⟨v, r', h', G', φ', h1, ⟨e1, e2⟩, h3, h4, h5, h6⟩ => ?_
  subst e1; subst e2
  obtain ⟨q1, q2, q3⟩ := call_back (x := r') (H := h) (obs := []) hs List.nodup_nil (by simp) (fun i hi => by simp at hi) ho h4 h5 h3 rfl (fun i h4 h5 => List.getElem?_eq_none h4)
  rw [upd_hp h _ (by simp)] at q1 q2
  exact ⟨v, r', h, G', _, h1, k, Nat.le_refl _, q1, q2, V.ren_rep q3 _ _ _ hr h6⟩
end
end Go.Proofs.YtblnfodnkacbbaaGreatDoor.Q

set_option maxRecDepth 100000
namespace Go.Proofs.YtblnfodnkacbbaaGreatDoor.Q
variable [Amb]
/-! ### other names for an object's places -/
mutual
def V.sbs (i : Nat) (pt : Nat → V) (mp : V) : V → V
  | .ptr j off => bif Nat.beq j i then pt off else .ptr j off
  | .map j => bif Nat.beq j i then mp else .map j
  | .agg cs => .agg (V.sbss i pt mp cs)
  | .tup cs => .tup (V.sbss i pt mp cs)
  | .fn f a b => .fn f (V.sbss i pt mp a) (V.sbss i pt mp b)
  | .d x => .d x
  | .iptr r => .iptr r
  | .eptr j a o => .eptr j a o
  | .fsl r => .fsl r
  | .gsl r t => .gsl r t
  | .vsl r => .vsl r
  | .arr j o l => .arr j o l
  | .yld id => .yld id
  | .lookT id x => .lookT id x
  | .lookV id x => .lookV id x
  | .lookB id => .lookB id
  | .undef => .undef
def V.sbss (i : Nat) (pt : Nat → V) (mp : V) : List V → List V
  | [] => []
  | x :: xs => V.sbs i pt mp x :: V.sbss i pt mp xs
end
section
variable {G G' : Imm} {φ : Loc} {i : Nat} {pt : Nat → V} {mp : V}
mutual
theorem V.sbs_rep (hle : G.le G') (hp : ∀ off v, (V.ptr i off).rep G φ v → (pt off).rep G' φ v) (hm : ∀ v, (V.map i).rep G φ v → mp.rep G' φ v) : ∀ (x : V) (v : Value), x.rep G φ v → (V.sbs i pt mp x).rep G' φ v
  | .ptr j off, v, h => by
    unfold V.sbs
    cases hb : Nat.beq j i with
    | true => have := Nat.eq_of_beq_eq_true hb; subst this; exact hp off v h
    | false => exact h
  | .map j, v, h => by
    unfold V.sbs
    cases hb : Nat.beq j i with
    | true => have := Nat.eq_of_beq_eq_true hb; subst this; exact hm v h
    | false => exact h
  | .agg cs, v, ⟨us, e, h1, h2⟩ => ⟨us, e, V.sbss_rep hle hp hm cs us h1, h2⟩
  | .tup cs, v, ⟨us, e, h1⟩ => ⟨us, e, V.sbss_rep hle hp hm cs us h1⟩
  | .fn f a b, v, ⟨us, vs, e, h1, h2⟩ => ⟨us, vs, e, V.sbss_rep hle hp hm a us h1, V.sbss_rep hle hp hm b vs h2⟩
  | .d x, v, h => (V.d x).rep_mono hle (Loc.le.refl _) v h
  | .iptr r, v, h => (V.iptr r).rep_mono hle (Loc.le.refl _) v h
  | .eptr j a o, v, h => h
  | .fsl r, v, h => (V.fsl r).rep_mono hle (Loc.le.refl _) v h
  | .gsl r t, v, h => (V.gsl r t).rep_mono hle (Loc.le.refl _) v h
  | .vsl r, v, h => (V.vsl r).rep_mono hle (Loc.le.refl _) v h
  | .arr j o l, v, h => h
  | .yld id, v, h => h
  | .lookT id x, v, h => (V.lookT id x).rep_mono hle (Loc.le.refl _) v h
  | .lookV id x, v, h => (V.lookV id x).rep_mono hle (Loc.le.refl _) v h
  | .lookB id, v, h => h
  | .undef, v, h => trivial
theorem V.sbss_rep (hle : G.le G') (hp : ∀ off v, (V.ptr i off).rep G φ v → (pt off).rep G' φ v) (hm : ∀ v, (V.map i).rep G φ v → mp.rep G' φ v) : ∀ (xs : List V) (us : List Value), repVs G φ xs us → repVs G' φ (V.sbss i pt mp xs) us
  | [], us, h => h
  | x :: xs, us, ⟨u, us', e, h1, h2⟩ => ⟨u, us', e, V.sbs_rep hle hp hm x u h1, V.sbss_rep hle hp hm xs us' h2⟩
end
end
def sbsE (i : Nat) (pt : Nat → V) (mp : V) : Env → Env
  | [] => []
  | (t, x) :: r => (t, V.sbs i pt mp x) :: sbsE i pt mp r
theorem lk_sbsE {i : Nat} {pt : Nat → V} {mp : V} : ∀ {ρ : Env} {t : Nat} {x : V}, lk (sbsE i pt mp ρ) t = some x → ∃ y, lk ρ t = some y ∧ x = V.sbs i pt mp y
  | [], t, x, h => by cases h
  | (k, y) :: r, t, x, h => by
    unfold sbsE at h
    rw [lk_put] at h
    rw [lk_put]
    split at h
    · rename_i hk; injection h with h; rw [if_pos hk]; exact ⟨y, rfl, h.symm⟩
    · rename_i hk; rw [if_neg hk]; exact lk_sbsE h
section
variable {P : Program} {n : Nat} {k : Md} {ρ : Env} {H : List Ob} {Q : Post}
/-- An object's block is known for good from now on. -/
theorem Sit.mark {G : Imm} {w : World} {φ : Loc} (hs : Sit G w φ (hp H)) (i : Nat) {ob : Ob} (hi : H[i]? = some ob) {b : Nat} (hown : Owns φ i ob b) (hone : ∀ b', Owns φ i ob b' → b' = b) (h5 : ∀ o, G b o = none) (us : List Value) (hc : ∀ o v, us[o]? = some v → CellIs Amb.memo (addBlk G b us) w b o v) :
    G.le (addBlk G b us) ∧ Sit (addBlk G b us) w φ (hp (H.set i .dead)) ∧ ∀ G1 w1 φ1 H1, Goes G1 w1 φ1 H1 G w φ (hp H) → Goes G1 w1 φ1 H1 (addBlk G b us) w φ (hp (H.set i .dead)) := by
  have hlt := lt_of_get hi
  have hG : ∀ b', b' ≠ b → ∀ o, addBlk G b us b' o = G b' o := fun b' hb o => by unfold addBlk; rw [if_neg hb]
  have hle : G.le (addBlk G b us) := addBlk_le h5 us
  have hset : ∀ j ob, hp (H.set i .dead) j = some ob → (j = i ∧ ob = .dead) ∨ (j ≠ i ∧ hp H j = some ob) := fun j ob hj => by
    rw [hp_set hlt] at hj
    split at hj
    · rename_i he; injection hj with hj; exact .inl ⟨he, hj.symm⟩
    · rename_i he; exact .inr ⟨he, hj⟩
  refine ⟨hle, ⟨hs.inv.of hle (fun _ _ _ _ _ _ _ => rfl) fun b' o v hg => ?_, fun j ob' hj => ?_, fun j j' ob1 ob2 b' hjj hj hj' hb hb' => ?_, fun j hj q => ?_⟩, fun G1 w1 φ1 H1 hg => ?_⟩
  · have hg0 := hg
    unfold addBlk at hg
    split at hg
    · rename_i hb; subst hb
      exact hc o v hg
    · exact (hs.inv.1 b' o v hg).go hle (fun x => x) fun _ => rfl
  · rcases hset j ob' hj with ⟨rfl, rfl⟩ | ⟨hne, hj⟩
    · trivial
    · refine (hs.holds j ob' hj).keep hle (Loc.le.refl _) (fun _ => rfl) (Nat.le_refl _) fun b' hb => ⟨rfl, hG b' fun e' => ?_⟩
      subst e'
      exact hs.dist j i ob' _ b' hne hj hi hb hown
  · rcases hset j ob1 hj with ⟨rfl, rfl⟩ | ⟨hne, hj⟩
    · simp [Owns, own] at hb
    · rcases hset j' ob2 hj' with ⟨rfl, rfl⟩ | ⟨hne', hj'⟩
      · simp [Owns, own] at hb'
      · exact hs.dist j j' ob1 ob2 b' hjj hj hj' hb hb'
  · rw [hp_set hlt] at hj
    split at hj
    · cases hj
    · exact hs.un j hj q
  · refine ⟨hg.le.trans hle, hg.ple, hg.os, hg.tape, hg.output, hg.size, fun b' hb hn hm => ⟨(hg.block b' hb hn hm).1, fun o => ?_⟩, fun b' hb => ?_⟩
    · have hne : b' ≠ b := fun e' => by
        subst e'
        rcases hg.owns b' ⟨i, _, hi, hown⟩ with h | h
        · exact hn h
        · omega
      rw [hG b' hne o]; exact (hg.block b' hb hn hm).2 o
    · obtain ⟨j, ob', hj, ho⟩ := hb
      rcases hset j ob' hj with ⟨rfl, rfl⟩ | ⟨hne, hj⟩
      · simp [Owns, own] at ho
      · exact hg.owns b' ⟨j, ob', hj, ho⟩
theorem SWp.mark {c : Code} (i : Nat) {ob : Ob} (hi : H[i]? = some ob) (pt : Nat → V) (mp : V)
    (hh : ∀ (G : Imm) (w : World) (φ : Loc), Inv G w → Holds G w φ i ob → ∃ b us, Owns φ i ob b ∧ (∀ b', Owns φ i ob b' → b' = b) ∧ (∀ o, G b o = none) ∧ (∀ o v, us[o]? = some v → CellIs Amb.memo (addBlk G b us) w b o v) ∧ (∀ off v, (V.ptr i off).rep G φ v → (pt off).rep (addBlk G b us) φ v) ∧ (∀ v, (V.map i).rep G φ v → mp.rep (addBlk G b us) φ v))
    (h : SWp P n k c (sbsE i pt mp ρ) (H.set i .dead) Q) : SWp P n k c ρ H Q := by
  intro G1 w1 φ1 H1 G w φ a Qc h0 hr hg hQ
  obtain ⟨b, us, e1, e2, e3, e4, e5, e6⟩ := hh G w φ hr.sit.inv (hr.sit.holds i _ hi)
  obtain ⟨hle, hs', hg'⟩ := hr.sit.mark i hi e1 e2 e3 us e4
  refine h G1 w1 φ1 H1 (addBlk G b us) w φ a Qc h0 ⟨hs', fun u x hx => ?_, hr.size⟩ (hg.trans (hg' _ _ _ _ (Goes.refl _ _ _ _)) rfl) hQ
  obtain ⟨y, y1, rfl⟩ := lk_sbsE hx
  obtain ⟨v, h1, h2⟩ := hr.env u y y1
  exact ⟨v, h1, V.sbs_rep hle e5 e6 y v h2⟩
/-- A struct that is written no more. -/
theorem SWp.frz {c : Code} (i : Nat) {cells : List V} {row : List D} (hi : H[i]? = some (.box cells)) (hr : toDs cells = some row) (h : SWp P n k c (sbsE i (fun off => .iptr (row.drop off)) (.map i) ρ) (H.set i .dead) Q) : SWp P n k c ρ H Q := by
  refine SWp.mark i hi _ _ (fun G w φ hinv hh => ?_) h
  obtain ⟨b, c', T, us, h1, h2, h3, h4, h5⟩ := hh
  have hle : G.le (addBlk G b us) := addBlk_le h5 us
  have hrow : repRow (addBlk G b us) b 0 row := repRow_of fun j d hj => by
    obtain ⟨u, u1, u2⟩ := (toDs_rep h3 hr).2 j d hj
    refine ⟨u, ?_, d.rep_mono hle u u2⟩
    unfold addBlk; rw [if_pos rfl, Nat.zero_add]; exact u1
  refine ⟨b, us, by simp [Owns, own, h1], fun b' hb => by simp [Owns, own, h1] at hb; exact hb.symm, h5, fun o v hv => .inl ⟨by rw [cell_us w h2]; exact hv, h4 v (List.mem_of_getElem? hv)⟩, ?_, fun v hv => hv⟩
  rintro off v ⟨b', c1, k1, rfl⟩
  rw [h1] at k1; injection k1 with k1; injection k1 with k1 _; injection k1 with k1; injection k1 with k1; subst k1
  exact ⟨b, off, rfl, by have := repRow_drop hrow off; rwa [Nat.zero_add] at this⟩
/-- A struct that is written no more; pointers to it may be held against each other. -/
theorem SWp.frzN {c : Code} (i : Nat) {cells : List V} {row : List D} (hi : H[i]? = some (.box cells)) (hr : toDs cells = some row) (h : SWp P n k c (sbsE i (fun off => match off with | 0 => .d (.nptr row) | off + 1 => .iptr (row.drop (off + 1))) (.map i) ρ) (H.set i .dead) Q) : SWp P n k c ρ H Q := by
  refine SWp.mark i hi _ _ (fun G w φ hinv hh => ?_) h
  obtain ⟨b, c', T, us, h1, h2, h3, h4, h5⟩ := hh
  have hle : G.le (addBlk G b (us ++ [plainMark])) := addBlk_le h5 _
  have hlen := repVs_len h3
  have hget : ∀ j u, us[j]? = some u → addBlk G b (us ++ [plainMark]) b j = some u := fun j u hj => by
    unfold addBlk; rw [if_pos rfl, List.getElem?_append_left (lt_of_get hj)]; exact hj
  have hmk : addBlk G b (us ++ [plainMark]) b us.length = some plainMark := by
    unfold addBlk; rw [if_pos rfl, List.getElem?_append_right (Nat.le_refl _), Nat.sub_self]; rfl
  have hrow : repRow (addBlk G b (us ++ [plainMark])) b 0 row := repRow_of fun j d hj => by
    obtain ⟨u, u1, u2⟩ := (toDs_rep h3 hr).2 j d hj
    exact ⟨u, by rw [Nat.zero_add]; exact hget j u u1, d.rep_mono hle u u2⟩
  refine ⟨b, us ++ [plainMark], by simp [Owns, own, h1], fun b' hb => by simp [Owns, own, h1] at hb; exact hb.symm, h5, fun o v hv => ?_, ?_, fun v hv => hv⟩
  · by_cases ho : o < us.length
    · rw [List.getElem?_append_left ho] at hv
      exact .inl ⟨by rw [cell_us w h2]; exact hv, h4 v (List.mem_of_getElem? hv)⟩
    · rw [List.getElem?_append_right (by omega)] at hv
      have ho2 : o - us.length = 0 := by have := lt_of_get hv; simp at this; omega
      rw [ho2] at hv
      simp at hv
      exact .inr (.inr ⟨hv.symm, us.toArray, T, h2, by simp; omega⟩)
  rintro off v ⟨b', c1, k1, rfl⟩
  rw [h1] at k1; injection k1 with k1; injection k1 with k1 _; injection k1 with k1; injection k1 with k1; subst k1
  cases off with
  | zero => exact ⟨b, 0, rfl, hrow, _, hmk⟩
  | succ off => exact ⟨b, off + 1, rfl, by have := repRow_drop hrow (off + 1); rwa [Nat.zero_add] at this⟩
/-- A set that is written no more. -/
theorem SWp.frzSet {c : Code} (i : Nat) {xs : List Int} (hi : H[i]? = some (.iset xs)) (h : SWp P n k c (sbsE i (fun off => .ptr i off) (.d (.set xs)) ρ) (H.set i .dead) Q) : SWp P n k c ρ H Q := by
  refine SWp.mark i hi _ _ (fun G w φ hinv hh => ?_) h
  obtain ⟨b, c', es, clk, l, bs, h1, h2, h3, h4, h5⟩ := hh
  refine ⟨b, [setMark l bs clk], by simp [Owns, own, h1], fun b' hb => by simp [Owns, own, h1] at hb; exact hb.symm, h5, fun o v hv => ?_, fun off v hv => hv, ?_⟩
  · cases o with
    | succ o => simp at hv
    | zero =>
      simp at hv; subst hv
      exact .inr (.inl ⟨rfl, es, clk, h2, .inl ⟨l, bs, rfl, h3⟩⟩)
  · rintro v ⟨b', c1, k1, rfl⟩
    rw [h1] at k1; injection k1 with k1; injection k1 with k1 _; injection k1 with k1; injection k1 with k1; subst k1
    exact .inr ⟨b, l, bs, clk, rfl, h4, by unfold addBlk; rw [if_pos rfl]; rfl⟩
/-! ### whether something was remembered -/
def flV (id : Nat) (b : Bool) : V → V
  | .lookV j x => bif Nat.beq j id && b then V.of x else .lookV j x
  | .lookB j => bif Nat.beq j id then .d (.bool b) else .lookB j
  | x => x
def flE (id : Nat) (b : Bool) : Env → Env
  | [] => []
  | (t, x) :: r => (t, flV id b x) :: flE id b r
theorem lk_flE {id : Nat} {b : Bool} : ∀ {ρ : Env} {t : Nat} {x : V}, lk (flE id b ρ) t = some x → ∃ y, lk ρ t = some y ∧ x = flV id b y
  | [], t, x, h => by cases h
  | (k, y) :: r, t, x, h => by
    unfold flE at h
    rw [lk_put] at h
    rw [lk_put]
    split at h
    · rename_i hk; injection h with h; rw [if_pos hk]; exact ⟨y, rfl, h.symm⟩
    · rename_i hk; rw [if_neg hk]; exact lk_flE h
theorem flV_rep {G : Imm} {φ : Loc} {id c : Nat} (hc : φ id 0 = some (none, c)) (x : V) (v : Value) (h : x.rep G φ v) : (flV id (Nat.beq c 1) x).rep G φ v := by
  unfold flV
  split
  · rename_i j x
    cases hj : Nat.beq j id with
    | false => exact h
    | true =>
      cases hb : Nat.beq c 1 with
      | false => exact h
      | true =>
        have e1 := Nat.eq_of_beq_eq_true hj
        have e2 := Nat.eq_of_beq_eq_true hb
        subst e1
        obtain ⟨c', h1, h2⟩ := h
        rw [hc] at h1; injection h1 with h1; injection h1 with _ h1; subst h1
        exact V.of_rep φ x v (h2 e2)
  · rename_i j
    cases hj : Nat.beq j id with
    | false => exact h
    | true =>
      have e1 := Nat.eq_of_beq_eq_true hj
      subst e1
      obtain ⟨c', h1, h2⟩ := h
      rw [hc] at h1; injection h1 with h1; injection h1 with _ h1; subst h1
      exact h2
  · exact h
/-- Both ways. -/
theorem SWp.flag {c : Code} (id : Nat) (hi : H[id]? = some .flag) (h : ∀ b : Bool, SWp P n k c (flE id b ρ) H Q) : SWp P n k c ρ H Q := by
  intro G1 w1 φ1 H1 G w φ a Qc h0 hr hg hQ
  obtain ⟨c', hc⟩ := hr.sit.holds id _ hi
  refine h (Nat.beq c' 1) G1 w1 φ1 H1 G w φ a Qc h0 ⟨hr.sit, fun u x hx => ?_, hr.size⟩ hg hQ
  obtain ⟨y, y1, rfl⟩ := lk_flE hx
  obtain ⟨v, h1, h2⟩ := hr.env u y y1
  exact ⟨v, h1, flV_rep hc y v h2⟩
/-- An empty map that is only to remember from now on, for what slot t holds. -/
theorem SWp.toMemo {c : Code} (i t : Nat) {x : D} (ht : lk ρ t = some (.d x)) (hi : H[i]? = some (.mp [] [])) (h : SWp P n k c (sbsE i (fun off => .ptr i off) (.d (.memo x)) ρ) (H.set i .dead) Q) : SWp P n k c ρ H Q := by
  intro G1 w1 φ1 H1 G w φ a Qc h0 hr hg hQ
  obtain ⟨u, hu, hx⟩ := hr.env t _ ht
  obtain ⟨b, c', es, clk, h1, h2, h3, h4, h5⟩ := hr.sit.holds i _ hi
  have hes : es.toList = [] := by
    have : es.toList.map (·.key) = [] := h3
    simpa using this
  have hle0 : G.le (addBlk G b [memoMark u]) := addBlk_le h5 _
  obtain ⟨hle, hs', hg'⟩ := hr.sit.mark i hi (b := b) (by simp [Owns, own, h1]) (fun b' hb => by simp [Owns, own, h1] at hb; exact hb.symm) h5 [memoMark u] (fun o v hv => by
    cases o with
    | succ o => simp at hv
    | zero =>
      simp at hv; subst hv
      exact .inr (.inl ⟨rfl, es, clk, h2, .inr ⟨u, rfl, by rw [hes]; simp, by rw [hes]; simp⟩⟩))
  refine h G1 w1 φ1 H1 _ w φ a Qc h0 ⟨hs', fun u' y hy => ?_, hr.size⟩ (hg.trans (hg' _ _ _ _ (Goes.refl _ _ _ _)) rfl) hQ
  obtain ⟨z, z1, rfl⟩ := lk_sbsE hy
  obtain ⟨v, g1, g2⟩ := hr.env u' z z1
  refine ⟨v, g1, V.sbs_rep (φ := φ) (i := i) (pt := fun off => .ptr i off) hle (fun off v hv => hv) (fun v hv => ?_) z v g2⟩
  obtain ⟨b', c1, k1, rfl⟩ := hv
  rw [h1] at k1; injection k1 with k1; injection k1 with k1 _; injection k1 with k1; injection k1 with k1; subst k1
  exact ⟨b, u, rfl, by unfold addBlk; rw [if_pos rfl]; rfl, x.rep_mono hle u hx⟩
def sbsOb (i : Nat) (pt : Nat → V) (mp : V) : Ob → Ob
  | .box cs => .box (V.sbss i pt mp cs)
  | ob => ob
def sbsH (i : Nat) (pt : Nat → V) (mp : V) : List Ob → List Ob
  | [] => []
  | ob :: r => sbsOb i pt mp ob :: sbsH i pt mp r
theorem sbsH_get {i : Nat} {pt : Nat → V} {mp : V} : ∀ (H : List Ob) (j : Nat), (sbsH i pt mp H)[j]? = (H[j]?).map (sbsOb i pt mp)
  | [], j => by simp [sbsH]
  | ob :: r, 0 => by simp [sbsH]
  | ob :: r, j + 1 => by simpa [sbsH] using sbsH_get r j
theorem sbsOb_owns {i : Nat} {pt : Nat → V} {mp : V} (φ : Loc) (j : Nat) (ob : Ob) : Owns φ j (sbsOb i pt mp ob) = Owns φ j ob := by
  cases ob <;> rfl
theorem Sit.sbs {G : Imm} {w : World} {φ : Loc} {H : List Ob} (hs : Sit G w φ (hp H)) {i : Nat} {pt : Nat → V} {mp : V} (h1 : ∀ off v, (V.ptr i off).rep G φ v → (pt off).rep G φ v) (h2 : ∀ v, (V.map i).rep G φ v → mp.rep G φ v) :
    Sit G w φ (hp (sbsH i pt mp H)) ∧ ∀ G0 w0 φ0 H0, Goes G0 w0 φ0 H0 G w φ (hp H) → Goes G0 w0 φ0 H0 G w φ (hp (sbsH i pt mp H)) := by
  have get : ∀ j ob, hp (sbsH i pt mp H) j = some ob → ∃ ob0, hp H j = some ob0 ∧ ob = sbsOb i pt mp ob0 := fun j ob h => by
    have h : (sbsH i pt mp H)[j]? = some ob := h
    rw [sbsH_get] at h
    cases hj : H[j]? with
    | none => rw [hj] at h; cases h
    | some ob0 => rw [hj] at h; injection h with h; exact ⟨ob0, hj, h.symm⟩
  refine ⟨⟨hs.inv, fun j ob hj => ?_, fun j k ob ob' b hjk hj hk hb hb' => ?_, fun j hj n => ?_⟩, fun G0 w0 φ0 H0 hg => ⟨hg.le, hg.ple, hg.os, hg.tape, hg.output, hg.size, hg.block, fun b hb => ?_⟩⟩
  · obtain ⟨ob0, h0, rfl⟩ := get j ob hj
    have hh := hs.holds j ob0 h0
    cases ob0 with
    | box cells =>
      obtain ⟨b, c, T, us, k1, k2, k3, k4, k5⟩ := hh
      exact ⟨b, c, T, us, k1, k2, V.sbss_rep (Imm.le.refl G) h1 h2 cells us k3, k4, k5⟩
    | _ => exact hh
  · obtain ⟨o1, g1, rfl⟩ := get j ob hj
    obtain ⟨o2, g2, rfl⟩ := get k ob' hk
    rw [sbsOb_owns] at hb hb'
    exact hs.dist j k o1 o2 b hjk g1 g2 hb hb'
  · refine hs.un j ?_ n
    have hj : (sbsH i pt mp H)[j]? = none := hj
    rw [sbsH_get] at hj
    show H[j]? = none
    cases h : H[j]? with
    | none => rfl
    | some ob => rw [h] at hj; cases hj
  · obtain ⟨j, ob, hj, ho⟩ := hb
    obtain ⟨ob0, h0, rfl⟩ := get j ob hj
    rw [sbsOb_owns] at ho
    exact hg.owns b ⟨j, ob0, h0, ho⟩
/-- The same, and in all boxes. -/
theorem SWp.toMemoB {c : Code} (i t : Nat) {x : D} (ht : lk ρ t = some (.d x)) (hi : H[i]? = some (.mp [] [])) (h : SWp P n k c (sbsE i (fun off => .ptr i off) (.d (.memo x)) ρ) (sbsH i (fun off => .ptr i off) (.d (.memo x)) (H.set i .dead)) Q) : SWp P n k c ρ H Q := by
  intro G1 w1 φ1 H1 G w φ a Qc h0 hr hg hQ
  obtain ⟨u, hu, hx⟩ := hr.env t _ ht
  obtain ⟨b, c', es, clk, h1, h2, h3, h4, h5⟩ := hr.sit.holds i _ hi
  have hes : es.toList = [] := by
    have : es.toList.map (·.key) = [] := h3
    simpa using this
  have hle0 : G.le (addBlk G b [memoMark u]) := addBlk_le h5 _
  obtain ⟨hle, hs', hg'⟩ := hr.sit.mark i hi (b := b) (by simp [Owns, own, h1]) (fun b' hb => by simp [Owns, own, h1] at hb; exact hb.symm) h5 [memoMark u] (fun o v hv => by
    cases o with
    | succ o => simp at hv
    | zero =>
      simp at hv; subst hv
      exact .inr (.inl ⟨rfl, es, clk, h2, .inr ⟨u, rfl, by rw [hes]; simp, by rw [hes]; simp⟩⟩))
  have hmp : ∀ v, (V.map i).rep (addBlk G b [memoMark u]) φ v → (V.d (.memo x)).rep (addBlk G b [memoMark u]) φ v := fun v hv => by
    obtain ⟨b', c1, k1, rfl⟩ := hv
    rw [h1] at k1; injection k1 with k1; injection k1 with k1 _; injection k1 with k1; injection k1 with k1; subst k1
    exact ⟨b, u, rfl, by unfold addBlk; rw [if_pos rfl]; rfl, x.rep_mono hle u hx⟩
  obtain ⟨hs2, hg2⟩ := hs'.sbs (i := i) (pt := fun off => .ptr i off) (mp := .d (.memo x)) (fun off v hv => hv) hmp
  refine h G1 w1 φ1 H1 _ w φ a Qc h0 ⟨hs2, fun u' y hy => ?_, hr.size⟩ (hg.trans (hg2 _ _ _ _ (hg' _ _ _ _ (Goes.refl _ _ _ _))) rfl) hQ
  obtain ⟨z, z1, rfl⟩ := lk_sbsE hy
  obtain ⟨v, g1, g2⟩ := hr.env u' z z1
  exact ⟨v, g1, V.sbs_rep (φ := φ) (i := i) (pt := fun off => .ptr i off) hle (fun off v hv => hv) (fun v hv => hmp v (by obtain ⟨b', c1, k1, k2⟩ := hv; exact ⟨b', c1, k1, k2⟩)) z v g2⟩
end
end Go.Proofs.YtblnfodnkacbbaaGreatDoor.Q
