/- Regions: one behind the other, or in whatever order. No condition. -/
import Derived.Test.YtlafnhpmhflnaaaQo
set_option linter.unusedVariables false
set_option linter.unusedSectionVars false
set_option linter.unnecessarySimpa false
set_option linter.unusedSimpArgs false
namespace Go.Proofs.Ytlafnhpmhflnaaa.Q
variable [Amb]
section
variable {P : Program} {tt : TT} {K : Env → List Ob → Prop}

/-! ### guards -/
def gdP (ops : List Oper) (o : Oper) (ρ : Env) (run skip : Prop) : Prop :=
  match o.guard with
  | none => run
  | some (g, want) => match ops[g]? with
    | some p => match p.dst with
      | some t => match lk ρ t with
        | some (.d (.bool b)) => match want with
          | true => brP b run skip
          | false => brP b skip run
        | some (.tup []) => skip
        | _ => False
      | none => False
    | none => False
theorem gdP_out {ops : List Oper} {o : Oper} {ρ : Env} {run skip : Prop} (h : gdP ops o ρ run skip) : ∃ r : Bool, (if r then run else skip) ∧ ∀ (G : Imm) (φ : Loc) (a : Act),
    (∀ t x, t ∈ reads ops o → lk ρ t = some x → ∃ v, a.tmps[t]? = some v ∧ x.rep G φ v) → Region.wanted o (yielded ops.toArray a.tmps) = r := by
  unfold gdP at h
  split at h
  · rename_i hg; exact ⟨true, h, fun G φ a _ => by simp [Region.wanted, hg]⟩
  · rename_i g want hg
    split at h
    · rename_i p hp
      split at h
      · rename_i t ht
        have hmem : t ∈ reads ops o := by
          unfold reads
          rw [hg]
          simp [hp, ht]
        have key : ∀ (G : Imm) (φ : Loc) (a : Act), Region.wanted o (yielded ops.toArray a.tmps) = ((match a.tmps[t]? with | some (.bool b) => some b | _ => none) == some want) := by
          intro G φ a
          simp only [Region.wanted, hg, yielded, List.getElem?_toArray, hp, Option.bind_some, ht]
          cases a.tmps[t]? with
          | none => rfl
          | some v => cases v <;> rfl
        split at h
        · rename_i b hb
          have fin : ∀ (r : Bool), (if r then run else skip) → r = (b == want) → ∃ r : Bool, (if r then run else skip) ∧ ∀ (G : Imm) (φ : Loc) (a : Act), (∀ t x, t ∈ reads ops o → lk ρ t = some x → ∃ v, a.tmps[t]? = some v ∧ x.rep G φ v) → Region.wanted o (yielded ops.toArray a.tmps) = r := by
            intro r hr hrb
            refine ⟨r, hr, fun G φ a hh => ?_⟩
            obtain ⟨v, h1, h2⟩ := hh t _ hmem hb
            have h2 : v = .bool b := h2
            rw [key G φ a, h1, h2, hrb]
            rfl
          cases want with
          | true =>
            rcases brP_out h with ⟨hb, h⟩ | ⟨hb, h⟩
            · exact fin true h (by rw [hb]; rfl)
            · exact fin false h (by rw [hb]; rfl)
          | false =>
            rcases brP_out h with ⟨hb, h⟩ | ⟨hb, h⟩
            · exact fin false h (by rw [hb]; rfl)
            · exact fin true h (by rw [hb]; rfl)
        · rename_i hb
          refine ⟨false, h, fun G φ a hh => ?_⟩
          obtain ⟨v, h1, us, h2, h3⟩ := hh t _ hmem hb
          rw [key G φ a, h1, h2]
          rfl
        · exact h.elim
      · exact h.elim
    · exact h.elim
def dstB (o : Oper) (n : Nat) : Bool := match o.dst with
  | some t => Nat.blt t n
  | none => true

/-! ### values, told at once (so that what follows does not work them out again and again) -/
def fN (n : Nat) (K : Nat → Prop) : Prop := @Nat.rec (fun _ => Nat → Prop) (fun acc => K acc) (fun _ ih acc => ih (acc + 1)) n 0
theorem fN_go (K : Nat → Prop) : ∀ (n acc : Nat), @Nat.rec (fun _ => Nat → Prop) (fun acc => K acc) (fun _ ih acc => ih (acc + 1)) n acc = K (acc + n)
  | 0, acc => rfl
  | n + 1, acc => (fN_go K n (acc + 1)).trans (by rw [Nat.add_right_comm, Nat.add_assoc])
theorem fN_eq (n : Nat) (K : Nat → Prop) : fN n K = K n := (fN_go K n 0).trans (by rw [Nat.zero_add])
def fNs (l : List Nat) : (List Nat → Prop) → Prop := @List.rec Nat (fun _ => (List Nat → Prop) → Prop) (fun K => K []) (fun a _ ih K => fN a fun a' => ih fun t => K (a' :: t)) l
theorem fNs_eq : ∀ (l : List Nat) (K : List Nat → Prop), fNs l K = K l
  | [], K => rfl
  | a :: t, K => by
    show fN a (fun a' => fNs t fun t' => K (a' :: t')) = _
    rw [fN_eq, fNs_eq t]
def fD (x : D) (K : D → Prop) : Prop := match x with
  | .int k n => K (.int k n)
  | .bool b => K (.bool b)
  | .str s => K (.str s)
  | .sl rows => K (.sl rows)
  | .raw v => K (.raw v)
theorem fD_eq (x : D) (K : D → Prop) : fD x K = K x := by cases x <;> rfl
/-- One cell. -/
def fC (x : V) (K : V → Prop) : Prop := match x with
  | .d y => fD y fun y => K (.d y)
  | .ptr id off => fN id fun id => fN off fun off => K (.ptr id off)
  | .gsl rows t => fN t fun t => K (.gsl rows t)
  | .arr id off len => fN id fun id => K (.arr id off len)
  | .eptr id i off => fN id fun id => K (.eptr id i off)
  | .map id => fN id fun id => K (.map id)
  | .agg cs => K (.agg cs)
  | .tup vs => K (.tup vs)
  | .iptr row => K (.iptr row)
  | .fsl rows => K (.fsl rows)
  | .vsl rows => K (.vsl rows)
  | .fn f a b => K (.fn f a b)
  | .yld id => fN id fun id => K (.yld id)
  | .undef => K .undef
theorem fC_eq (x : V) (K : V → Prop) : fC x K = K x := by cases x <;> simp only [fC, fD_eq, fN_eq]
def fCs (l : List V) : (List V → Prop) → Prop := @List.rec V (fun _ => (List V → Prop) → Prop) (fun K => K []) (fun a _ ih K => fC a fun a' => ih fun t => K (a' :: t)) l
theorem fCs_eq : ∀ (l : List V) (K : List V → Prop), fCs l K = K l
  | [], K => rfl
  | a :: t, K => by
    show fC a (fun a' => fCs t fun t' => K (a' :: t')) = _
    rw [fC_eq, fCs_eq t]
def fV (x : V) (K : V → Prop) : Prop := match x with
  | .agg cs => fCs cs fun cs => K (.agg cs)
  | .tup vs => fCs vs fun vs => K (.tup vs)
  | x => fC x K
theorem fV_eq (x : V) (K : V → Prop) : fV x K = K x := by cases x <;> simp only [fV, fC_eq, fCs_eq]
def fOb (x : Ob) (K : Ob → Prop) : Prop := match x with
  | .box cs => fCs cs fun cs => K (.box cs)
  | .tip e n => K (.tip e n)
  | .parr e rows => K (.parr e rows)
  | .hist xs => K (.hist xs)
  | .dead => K .dead
theorem fOb_eq (x : Ob) (K : Ob → Prop) : fOb x K = K x := by cases x <;> simp only [fOb, fCs_eq]
def fObs (l : List Ob) : (List Ob → Prop) → Prop := @List.rec Ob (fun _ => (List Ob → Prop) → Prop) (fun K => K []) (fun a _ ih K => fOb a fun a' => ih fun t => K (a' :: t)) l
theorem fObs_eq : ∀ (l : List Ob) (K : List Ob → Prop), fObs l K = K l
  | [], K => rfl
  | a :: t, K => by
    show fOb a (fun a' => fObs t fun t' => K (a' :: t')) = _
    rw [fOb_eq, fObs_eq t]
def putK (ρ : Env) (d : Option Nat) (x : V) (K : Env → Prop) : Prop := match d with
  | some t => fV x fun x => K ((t, x) :: ρ)
  | none => K ρ
theorem putK_eq (ρ : Env) (d : Option Nat) (x : V) (K : Env → Prop) : putK ρ d x K = K (put ρ d x) := by cases d <;> simp only [putK, put, fV_eq]
def nextE (ρ : Env) (H : List Ob) (d : Option Nat) (e : Eff) (K : Env → List Ob → Prop) : Prop := putK ρ d e.x fun ρ' => match e.wr, e.nw with
  | [], [] => K ρ' H
  | wr, nw => fObs (updL H ⟨e.x, e.rd, wr, nw⟩) fun H' => K ρ' H'
theorem nextE_eq (ρ : Env) (H : List Ob) (d : Option Nat) (e : Eff) (K : Env → List Ob → Prop) : nextE ρ H d e K = K (put ρ d e.x) (updL H e) := by
  unfold nextE
  rw [putK_eq]
  obtain ⟨x, rd, wr, nw⟩ := e
  cases wr <;> cases nw <;> simp only [fObs_eq] <;> rfl

/-! ### one behind the other -/
def isCall : Op → Option Call
  | .call c => match c.callee with
    | .builtin _ => none
    | _ => some c
  | _ => none
def popR (P : Program) (tt : TT) (ρ : Env) (H : List Ob) (o : Op) (K : Eff → Prop) : Prop :=
  match isCall o with
  | some c => callR P ρ H c K
  | none => popE P tt ρ H o K
theorem popR_sem {o : Oper} {ρ : Env} {H : List Ob} {K : Eff → Prop} (htt : TTok P tt) (h : popR P tt ρ H o.op K) : TriS P o ρ H K := by
  unfold popR at h
  split at h
  · rename_i c hc
    have : o.op = .call c := by
      unfold isCall at hc
      split at hc
      · rename_i c' heq
        split at hc
        · cases hc
        · injection hc with hc; rw [heq, hc]
      · cases hc
    exact callR_sem this h
  · exact TriS.of (fun c' hc' => by rw [hc'] at h; exact h.elim) (popE_sem htt h)
/-- (By the list's own recursor: what is left of it then looks alike to Lean's elaborator and to its kernel.) -/
def pops (P : Program) (tt : TT) (n : Nat) (ops : List Oper) (l : List Oper) : Env → List Ob → (Env → List Ob → Prop) → Prop :=
  @List.rec Oper (fun _ => Env → List Ob → (Env → List Ob → Prop) → Prop) (fun ρ H K => K ρ H)
    (fun o _ ih ρ H K => condP (dstB o n) (gdP ops o ρ (popR P tt ρ H o.op fun e => nextE ρ H o.dst e fun ρ' H' => ih ρ' H' K) (putK ρ o.dst (.tup []) fun ρ' => ih ρ' H K))) l
theorem pops_cons (P : Program) (tt : TT) (n : Nat) (ops : List Oper) (o : Oper) (r : List Oper) (ρ : Env) (H : List Ob) (K : Env → List Ob → Prop) : pops P tt n ops (o :: r) ρ H K =
    condP (dstB o n) (gdP ops o ρ (popR P tt ρ H o.op fun e => pops P tt n ops r (put ρ o.dst e.x) (updL H e) K) (pops P tt n ops r (put ρ o.dst (.tup [])) H K)) := by
  show condP (dstB o n) (gdP ops o ρ (popR P tt ρ H o.op fun e => nextE ρ H o.dst e fun ρ' H' => pops P tt n ops r ρ' H' K) (putK ρ o.dst (.tup []) fun ρ' => pops P tt n ops r ρ' H K)) = _
  simp only [nextE_eq, putK_eq]
/-- The frame and the world as a state says. -/
structure Rep (n : Nat) (G : Imm) (w : World) (φ : Loc) (ρ : Env) (H : List Ob) (a : Act) : Prop where
  sit : Sit G w φ (hp H)
  env : EnvOk G φ ρ a
  size : a.tmps.size = n
theorem put_defers (a : Act) (d : Option Tmp) (v : Value) : (a.put d v).defers = a.defers := by cases d <;> rfl
theorem put_size (a : Act) (d : Option Tmp) (v : Value) : (a.put d v).tmps.size = a.tmps.size := by cases d <;> simp [Act.put]
theorem env_put {G : Imm} {φ : Loc} {ρ : Env} {a : Act} {o : Oper} {n : Nat} {x : V} {v : Value} (h : EnvOk G φ ρ a) (hn : a.tmps.size = n) (hd : dstB o n = true) (hx : x.rep G φ v) : EnvOk G φ (put ρ o.dst x) (a.put o.dst v) := by
  unfold dstB at hd
  cases hdst : o.dst with
  | none => exact h
  | some d =>
    rw [hdst] at hd
    have hdn : d < n := Nat.le_of_ble_eq_true hd
    intro t y hy
    simp only [put, lk_put] at hy
    split at hy
    · rename_i hdt
      injection hy with hy; subst hy; subst hdt
      exact ⟨v, by simp [Act.put, hn, hdn], hx⟩
    · rename_i hdt
      obtain ⟨u, h1, h2⟩ := h t y hy
      exact ⟨u, by simp [Act.put, Array.getElem?_setIfInBounds_ne hdt, h1], h2⟩
theorem opRep_of {G : Imm} {φ : Loc} {ρ : Env} {a : Act} (h : EnvOk G φ ρ a) (o : Oper) : OpRep o ρ a G φ := fun x X _ hX => ev_rep h hX
theorem pops_sem (htt : TTok P tt) {n : Nat} (r : Option Nat) {ops : List Oper} {Q : Exit → Act → World → Prop} : ∀ (l : List Oper) (ρ : Env) (H : List Ob), pops P tt n ops l ρ H K → ∀ (G0 : Imm) (w0 : World) (φ0 : Loc) (H0 : Hp) (G : Imm) (w : World) (φ : Loc) (a : Act), Rep n G w φ ρ H a → Goes G0 w0 φ0 H0 G w φ (hp H) →
    (∀ ρ' H' G' w' φ' a', K ρ' H' → Rep n G' w' φ' ρ' H' a' → Goes G0 w0 φ0 H0 G' w' φ' (hp H') → a'.defers = a.defers → Q .normal a' w') → wpListIn (Fr r) 0 P ops.toArray Q l a w
  | [], ρ, H, h, G0, w0, φ0, H0, G, w, φ, a, hrep, hgo, hQ => hQ ρ H G w φ a h hrep hgo rfl
  | o :: rest, ρ, H, h, G0, w0, φ0, H0, G, w, φ, a, hrep, hgo, hQ => by
    rw [pops_cons] at h
    obtain ⟨hd, h⟩ := condP_out h
    obtain ⟨b, hb, hw⟩ := gdP_out h
    have hw := hw G φ a fun t x _ hx => hrep.env t x hx
    unfold wpListIn
    cases b with
    | true =>
      rw [if_pos hw]
      refine popR_sem htt hb r a G w φ _ _ hrep.sit (opRep_of hrep.env o) fun e v G' w' φ' hK hs' hg' hx => ?_
      refine pops_sem htt r rest _ _ hK G0 w0 φ0 H0 G' w' φ' (a.put o.dst v) ⟨hs', env_put (hrep.env.mono hg'.le hg'.ple) hrep.size hd hx, by rw [put_size]; exact hrep.size⟩ (hgo.trans hg') (fun ρ1 H1 G1 w1 φ1 a1 q1 q2 q3 q4 => hQ ρ1 H1 G1 w1 φ1 a1 q1 q2 q3 (q4.trans (put_defers _ _ _)))
    | false =>
      rw [if_neg (by rw [hw]; simp)]
      exact ⟨fun _ _ => trivial, pops_sem htt r rest _ _ hb G0 w0 φ0 H0 G w φ (a.put o.dst undef) ⟨hrep.sit, env_put hrep.env hrep.size hd ⟨[], rfl, rfl⟩, by rw [put_size]; exact hrep.size⟩ hgo (fun ρ1 H1 G1 w1 φ1 a1 q1 q2 q3 q4 => hQ ρ1 H1 G1 w1 φ1 a1 q1 q2 q3 (q4.trans (put_defers _ _ _)))⟩

/-! ### in whatever order -/
def newIds (base : Nat) (e : Eff) : List Nat := List.range' base e.nw.length
def wrote (base : Nat) (e : Eff) : List Nat := e.wr.map (·.1) ++ newIds base e
def touch (base : Nat) (e : Eff) : List Nat := e.rd ++ wrote base e
structure Fp where
  i : Nat
  t : List Nat
  w : List Nat
def apartB (f g : Fp) : Bool := disjB f.w g.t && disjB g.w f.t
def fpB (ops : List Oper) (fps : List Fp) (g : Fp) : Bool := match g.t with
  | [] => true
  | _ => fps.all fun f => apartB f g || waits ops g.i f.i
def addFp (g : Fp) (fps : List Fp) : List Fp := match g.t with
  | [] => fps
  | _ => g :: fps
theorem touch_nil {base : Nat} {e : Eff} (h : touch base e = []) : wrote base e = [] := (List.append_eq_nil_iff.1 h).2
def pd (P : Program) (tt : TT) (n : Nat) (ops : List Oper) (l : List Oper) : Nat → Env → List Ob → List Fp → (Env → List Ob → Prop) → Prop :=
  @List.rec Oper (fun _ => Nat → Env → List Ob → List Fp → (Env → List Ob → Prop) → Prop) (fun _ ρ H _ K => K ρ H)
    (fun o _ ih j ρ H fps K => condP (dstB o n) (gdP ops o ρ
      (popE P tt ρ H o.op fun e => fNs (touch H.length e) fun t => fNs (wrote H.length e) fun w => condP (fpB ops fps ⟨j, t, w⟩) (nextE ρ H o.dst e fun ρ' H' => ih (j + 1) ρ' H' (addFp ⟨j, t, w⟩ fps) K))
      (putK ρ o.dst (.tup []) fun ρ' => ih (j + 1) ρ' H fps K))) l
theorem pd_cons (P : Program) (tt : TT) (n : Nat) (ops : List Oper) (o : Oper) (r : List Oper) (j : Nat) (ρ : Env) (H : List Ob) (fps : List Fp) (K : Env → List Ob → Prop) : pd P tt n ops (o :: r) j ρ H fps K =
    condP (dstB o n) (gdP ops o ρ
      (popE P tt ρ H o.op fun e => condP (fpB ops fps ⟨j, touch H.length e, wrote H.length e⟩) (pd P tt n ops r (j + 1) (put ρ o.dst e.x) (updL H e) (addFp ⟨j, touch H.length e, wrote H.length e⟩ fps) K))
      (pd P tt n ops r (j + 1) (put ρ o.dst (.tup [])) H fps K)) := by
  show condP (dstB o n) (gdP ops o ρ
      (popE P tt ρ H o.op fun e => fNs (touch H.length e) fun t => fNs (wrote H.length e) fun w => condP (fpB ops fps ⟨j, t, w⟩) (nextE ρ H o.dst e fun ρ' H' => pd P tt n ops r (j + 1) ρ' H' (addFp ⟨j, t, w⟩ fps) K))
      (putK ρ o.dst (.tup []) fun ρ' => pd P tt n ops r (j + 1) ρ' H fps K)) = _
  simp only [nextE_eq, putK_eq, fNs_eq]
structure Stp where
  ρ : Env
  H : List Ob
  e : Option Eff
def Stp.x (s : Stp) : V := match s.e with
  | some e => e.x
  | none => .tup []
def Stp.fp (s : Stp) (j : Nat) : Fp := match s.e with
  | some e => ⟨j, touch s.H.length e, wrote s.H.length e⟩
  | none => ⟨j, [], []⟩
structure StpOk (P : Program) (n : Nat) (ops : List Oper) (o : Oper) (s s' : Stp) : Prop where
  dst : dstB o n = true
  gd : ∀ (G : Imm) (φ : Loc) (a : Act), (∀ t x, t ∈ reads ops o → lk s.ρ t = some x → ∃ v, a.tmps[t]? = some v ∧ x.rep G φ v) → Region.wanted o (yielded ops.toArray a.tmps) = s.e.isSome
  tri : ∀ e, s.e = some e → Tri P o s.ρ s.H e
  ρ : s'.ρ = put s.ρ o.dst s.x
  H : s'.H = match s.e with | some e => updL s.H e | none => s.H
theorem pd_plan (htt : TTok P tt) {n : Nat} {ops : List Oper} : ∀ (l : List Oper) (j : Nat) (ρ : Env) (H : List Ob) (fps : List Fp), pd P tt n ops l j ρ H fps K →
    ∃ S : Nat → Stp, (S j).ρ = ρ ∧ (S j).H = H ∧ (∀ m o, l[m]? = some o → StpOk P n ops o (S (j + m)) (S (j + m + 1))) ∧
      (∀ m, m < l.length → ∀ f ∈ fps, apartB f ((S (j + m)).fp (j + m)) = true ∨ waits ops (j + m) f.i = true) ∧
      (∀ m m', m < m' → m' < l.length → apartB ((S (j + m)).fp (j + m)) ((S (j + m')).fp (j + m')) = true ∨ waits ops (j + m') (j + m) = true) ∧
      K (S (j + l.length)).ρ (S (j + l.length)).H
  | [], j, ρ, H, fps, h => ⟨fun _ => ⟨ρ, H, none⟩, rfl, rfl, by simp, by simp, by simp, h⟩
  | o :: r, j, ρ, H, fps, h => by
    rw [pd_cons] at h
    obtain ⟨hd, h⟩ := condP_out h
    obtain ⟨b, hb, hw⟩ := gdP_out h
    have glue : ∀ (e : Option Eff) (fps' : List Fp) (S : Nat → Stp), (∀ f ∈ fps, f ∈ fps') → e.isSome = b → (∀ e', e = some e' → Tri P o ρ H e') → (S (j + 1)).ρ = put ρ o.dst (Stp.x ⟨ρ, H, e⟩) → (S (j + 1)).H = (match e with | some e => updL H e | none => H) →
        (∀ f ∈ fps, apartB f (Stp.fp ⟨ρ, H, e⟩ j) = true ∨ waits ops j f.i = true) → (apartB (Stp.fp ⟨ρ, H, e⟩ j) ⟨0, [], []⟩ = true) →
        (∀ (g : Fp), apartB (Stp.fp ⟨ρ, H, e⟩ j) g = true ∨ Stp.fp ⟨ρ, H, e⟩ j ∈ fps') →
        (∀ m o, r[m]? = some o → StpOk P n ops o (S (j + 1 + m)) (S (j + 1 + m + 1))) →
        (∀ m, m < r.length → ∀ f ∈ fps', apartB f ((S (j + 1 + m)).fp (j + 1 + m)) = true ∨ waits ops (j + 1 + m) f.i = true) →
        (∀ m m', m < m' → m' < r.length → apartB ((S (j + 1 + m)).fp (j + 1 + m)) ((S (j + 1 + m')).fp (j + 1 + m')) = true ∨ waits ops (j + 1 + m') (j + 1 + m) = true) →
        K (S (j + 1 + r.length)).ρ (S (j + 1 + r.length)).H → ∃ S : Nat → Stp, (S j).ρ = ρ ∧ (S j).H = H ∧ (∀ m o', (o :: r)[m]? = some o' → StpOk P n ops o' (S (j + m)) (S (j + m + 1))) ∧
      (∀ m, m < (o :: r).length → ∀ f ∈ fps, apartB f ((S (j + m)).fp (j + m)) = true ∨ waits ops (j + m) f.i = true) ∧
      (∀ m m', m < m' → m' < (o :: r).length → apartB ((S (j + m)).fp (j + m)) ((S (j + m')).fp (j + m')) = true ∨ waits ops (j + m') (j + m) = true) ∧
      K (S (j + (o :: r).length)).ρ (S (j + (o :: r).length)).H := by
      intro e fps' S hsub he htri h1 h2 hf0 _ hin h3 h4 h5 h6
      have hS : ∀ k, k ≠ j → (fun k => if k = j then (⟨ρ, H, e⟩ : Stp) else S k) k = S k := fun k hk => if_neg hk
      have hSj : (fun k => if k = j then (⟨ρ, H, e⟩ : Stp) else S k) j = ⟨ρ, H, e⟩ := if_pos rfl
      refine ⟨fun k => if k = j then ⟨ρ, H, e⟩ else S k, by rw [hSj], by rw [hSj], ?_, ?_, ?_, ?_⟩
      · intro m o' hm
        cases m with
        | zero =>
          simp at hm; subst hm
          rw [show (fun k => if k = j then (⟨ρ, H, e⟩ : Stp) else S k) (j + 0) = ⟨ρ, H, e⟩ from hSj, show (fun k => if k = j then (⟨ρ, H, e⟩ : Stp) else S k) (j + 0 + 1) = S (j + 1) from hS _ (by omega)]
          exact ⟨hd, fun G φ a hh => by rw [hw G φ a hh, he], htri, h1, h2⟩
        | succ m =>
          rw [show (fun k => if k = j then (⟨ρ, H, e⟩ : Stp) else S k) (j + (m + 1)) = S (j + 1 + m) by rw [hS _ (by omega)]; congr 1; omega, show (fun k => if k = j then (⟨ρ, H, e⟩ : Stp) else S k) (j + (m + 1) + 1) = S (j + 1 + m + 1) by rw [hS _ (by omega)]; congr 1; omega]
          exact h3 m o' (by simpa using hm)
      · intro m hm f hf
        cases m with
        | zero => rw [show (fun k => if k = j then (⟨ρ, H, e⟩ : Stp) else S k) (j + 0) = ⟨ρ, H, e⟩ from hSj]; exact hf0 f hf
        | succ m =>
          rw [show (fun k => if k = j then (⟨ρ, H, e⟩ : Stp) else S k) (j + (m + 1)) = S (j + 1 + m) by rw [hS _ (by omega)]; congr 1; omega, show j + (m + 1) = j + 1 + m by omega]
          exact h4 m (by simpa using hm) f (hsub f hf)
      · intro m m' hmm hm'
        obtain ⟨k, rfl⟩ : ∃ k, m' = k + 1 := ⟨m' - 1, by omega⟩
        rw [show (fun k => if k = j then (⟨ρ, H, e⟩ : Stp) else S k) (j + (k + 1)) = S (j + 1 + k) by rw [hS _ (by omega)]; congr 1; omega, show j + (k + 1) = j + 1 + k by omega]
        cases m with
        | zero =>
          rw [show (fun k => if k = j then (⟨ρ, H, e⟩ : Stp) else S k) (j + 0) = ⟨ρ, H, e⟩ from hSj]
          rcases hin ((S (j + 1 + k)).fp (j + 1 + k)) with h7 | h7
          · exact .inl h7
          · rcases h4 k (by simpa using hm') _ h7 with h8 | h8
            · exact .inl h8
            · right
              have : (Stp.fp ⟨ρ, H, e⟩ j).i = j := by unfold Stp.fp; cases e <;> rfl
              rw [this] at h8
              exact h8
        | succ m =>
          rw [show (fun k => if k = j then (⟨ρ, H, e⟩ : Stp) else S k) (j + (m + 1)) = S (j + 1 + m) by rw [hS _ (by omega)]; congr 1; omega, show j + (m + 1) = j + 1 + m by omega]
          exact h5 m k (by omega) (by simpa using hm')
      · rw [List.length_cons, show (fun k => if k = j then (⟨ρ, H, e⟩ : Stp) else S k) (j + (r.length + 1)) = S (j + 1 + r.length) by rw [hS _ (by omega)]; congr 1; omega]
        exact h6
    cases b with
    | true =>
      obtain ⟨e, hk, ht⟩ := popE_sem htt hb
      obtain ⟨hf, hk⟩ := condP_out hk
      obtain ⟨S, s1, s2, s3, s4, s5, s6⟩ := pd_plan htt r (j + 1) _ _ _ hk
      have nilCase : touch H.length e = [] → ∀ g : Fp, apartB ⟨j, touch H.length e, wrote H.length e⟩ g = true ∧ apartB g ⟨j, touch H.length e, wrote H.length e⟩ = true := by
        intro h0 g
        rw [h0, touch_nil h0]
        simp [apartB, disjB, memB]
      refine glue (some e) (addFp ⟨j, touch H.length e, wrote H.length e⟩ fps) S (fun f hf => ?_) rfl (fun e' he => by injection he with he; subst he; exact ht) s1 s2 (fun f hf' => ?_) (by simp [apartB, disjB, Stp.fp, memB]) (fun g => ?_) s3 s4 s5 s6
      · unfold addFp
        split
        · exact hf
        · exact List.mem_cons_of_mem _ hf
      · unfold fpB at hf
        split at hf
        · rename_i h0; exact .inl (nilCase h0 f).2
        · have := List.all_eq_true.1 hf f hf'
          simp only [Bool.or_eq_true] at this
          exact this
      · unfold addFp
        split
        · rename_i h0; exact .inl (nilCase h0 g).1
        · exact .inr List.mem_cons_self
    | false =>
      obtain ⟨S, s1, s2, s3, s4, s5, s6⟩ := pd_plan htt r (j + 1) _ _ _ hb
      exact glue none fps S (fun f hf => hf) rfl (fun e' he => by cases he) s1 s2 (fun f hf' => .inl (by simp [apartB, disjB, Stp.fp, memB])) (by simp [apartB, disjB, Stp.fp]) (fun g => .inl (by simp [apartB, disjB, Stp.fp, memB])) s3 s4 s5 s6
end
end Go.Proofs.Ytlafnhpmhflnaaa.Q
