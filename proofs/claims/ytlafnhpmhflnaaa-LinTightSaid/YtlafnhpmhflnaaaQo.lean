/- Every operation, out of its operands' values. No condition. -/
import Derived.TacticsIn
import Derived.OrdersIn
import Derived.Test.YtlafnhpmhflnaaaQn
set_option linter.unusedVariables false
set_option linter.unusedSectionVars false
set_option linter.unnecessarySimpa false
set_option linter.unusedSimpArgs false
namespace Go.Proofs.Ytlafnhpmhflnaaa.Q
variable [Amb]
def ev1 (ρ : Env) (x : Operand) (k : V → Prop) : Prop := match ev ρ x with
  | some X => k X
  | none => False
def ev2 (ρ : Env) (x y : Operand) (k : V → V → Prop) : Prop := match ev ρ x, ev ρ y with
  | some X, some Y => k X Y
  | _, _ => False
def evsP (ρ : Env) (xs : List Operand) (k : List V → Prop) : Prop := match evs ρ xs with
  | some X => k X
  | none => False
def evPartsP (ρ : Env) (xs : List (Nat × Operand)) (k : List (Nat × V) → Prop) : Prop := match evParts ρ xs with
  | some X => k X
  | none => False
theorem ev1_out {ρ : Env} {x : Operand} {k : V → Prop} (h : ev1 ρ x k) : ∃ X, ev ρ x = some X ∧ k X := by
  unfold ev1 at h; split at h
  · rename_i X hX; exact ⟨X, hX, h⟩
  · exact h.elim
theorem ev2_out {ρ : Env} {x y : Operand} {k : V → V → Prop} (h : ev2 ρ x y k) : ∃ X Y, ev ρ x = some X ∧ ev ρ y = some Y ∧ k X Y := by
  unfold ev2 at h; split at h
  · rename_i X Y hX hY; exact ⟨X, Y, hX, hY, h⟩
  · exact h.elim
theorem evsP_out {ρ : Env} {xs : List Operand} {k : List V → Prop} (h : evsP ρ xs k) : ∃ X, evs ρ xs = some X ∧ k X := by
  unfold evsP at h; split at h
  · rename_i X hX; exact ⟨X, hX, h⟩
  · exact h.elim
theorem evPartsP_out {ρ : Env} {xs : List (Nat × Operand)} {k : List (Nat × V) → Prop} (h : evPartsP ρ xs k) : ∃ X, evParts ρ xs = some X ∧ k X := by
  unfold evPartsP at h; split at h
  · rename_i X hX; exact ⟨X, hX, h⟩
  · exact h.elim

/-! ### one of two -/
def optK (K : Eff → Prop) : Option V → Prop
  | some X => kv K X
  | none => False
def pPick (C : V) (X Y : Option V) (K : Eff → Prop) : Prop :=
  match C with
  | .d (.bool b) => brP b (optK K X) (optK K Y)
  | _ => False
/-! ### max, min -/
def intsOf (k : IntKind) : List V → Option (List Int)
  | [] => some []
  | .d (.int j n) :: r => bif kindEq j k then (match intsOf k r with | some ns => some (n :: ns) | none => none) else none
  | _ => none
def maxI (x : Int) : List Int → Int
  | [] => x
  | y :: ys => maxI (if y > x then y else x) ys
def minI (x : Int) : List Int → Int
  | [] => x
  | y :: ys => minI (if y < x then y else x) ys
def pMM (mx : Bool) (xs : List V) (K : Eff → Prop) : Prop :=
  match xs with
  | .d (.int k n) :: r => match intsOf k r with
    | some ns => kv K (.d (.int k (match mx with | true => maxI n ns | false => minI n ns)))
    | none => False
  | _ => False

/-! ### calls -/
def fnArgs (ρ : Env) (c : Call) : Option (FuncId × List V) :=
  match c.callee with
  | .value f => match ev ρ f with
    | some (.fn (.func g) first captured) => match evs ρ c.args.toList with
      | some xs => some (g, plains (first ++ xs ++ captured))
      | none => none
    | _ => none
  | _ => none
/-- One result, whatever the order. -/
def callE (P : Program) (ρ : Env) (H : List Ob) (c : Call) (K : Eff → Prop) : Prop :=
  match fnArgs ρ c with
  | some (g, zs) => lendE H zs fun ids ys h => ∃ r h', PFun P g ys h r h' ∧ backE ids H.length r h' K
  | none => False
/-- The function that is called back. -/
def callY (P : Program) (ρ : Env) (H : List Ob) (c : Call) (K : Eff → Prop) : Prop :=
  match c.callee with
  | .value f => match ev ρ f with
    | some (.yld id) => match evs ρ c.args.toList, H[id]? with
      | some zs, some (.hist xs) => match rens (fun _ => none) (plains zs) with
        | some ys => (Amb.ok P (xs ++ [ys]) ∧ ∀ m, 0 < m → m ≤ xs.length → Amb.go (xs.take m) = true) ∧
            brP (Amb.go (xs ++ [ys])) (K ⟨.d (.bool true), [], [(id, .hist (xs ++ [ys]))], []⟩) (K ⟨.d (.bool false), [], [(id, .hist (xs ++ [ys]))], []⟩)
        | none => False
      | _, _ => False
    | _ => False
  | _ => False
/-- Results such as R says. -/
def callR (P : Program) (ρ : Env) (H : List Ob) (c : Call) (K : Eff → Prop) : Prop :=
  match fnArgs ρ c with
  | some (g, zs) => lendE H zs fun ids ys h => PCalls P g ys h fun r h' => backE ids H.length r h' K
  | none => callY P ρ H c K
def popB (tt : TT) (ρ : Env) (H : List Ob) (b : Builtin) (args : List Operand) (tys : List TypeId) (K : Eff → Prop) : Prop :=
  match b, args, tys with
  | .len, [x], [t] => ev1 ρ x fun X => pLen tt t X K
  | .append, [x, y], [t, u] => ev2 ρ x y fun X Y => pApp tt t u X Y H K
  | .max, xs, _ => evsP ρ xs fun X => pMM true X K
  | .min, xs, _ => evsP ρ xs fun X => pMM false X K
  | _, _, _ => False
/-- What an operation does. -/
def popE (P : Program) (tt : TT) (ρ : Env) (H : List Ob) (o : Op) (K : Eff → Prop) : Prop :=
  match o with
  | .move x => ev1 ρ x fun X => kv K X
  | .assign x => ev1 ρ x fun X => kv K X
  | .alloc t => pAlloc tt t H K
  | .box _ x => ev1 ρ x fun X => pBox X H K
  | .build t ps => evPartsP ρ ps.toList fun X => pBuild tt t X K
  | .buildSlice t n ps => evPartsP ρ ps.toList fun X => pBS tt t n X K
  | .load t x => ev1 ρ x fun X => pLoad tt t X H K
  | .store t x y => ev2 ρ x y fun X Y => pStore tt t X Y H K
  | .nilCheck x => ev1 ρ x fun X => pNil X K
  | .binOp op t x y _ => ev2 ρ x y fun X Y => pBin tt op t X Y K
  | .unOp op _ x => ev1 ρ x fun X => pUn op X K
  | .pick c x y => ev1 ρ c fun C => pPick C (ev ρ x) (ev ρ y) K
  | .convert s t x => ev1 ρ x fun X => pConv tt s t X K
  | .makeFunc f a b => evsP ρ a.toList fun X => evsP ρ b.toList fun Y => kv K (.fn f X Y)
  | .makeSlice t x y => ev2 ρ x y fun X Y => pMake tt t (isZero x) X Y H K
  | .slice t x lo hi none => ev1 ρ x fun X => match bnd ρ lo, bnd ρ hi with
    | some l, some h => pCut tt t X l h K
    | _, _ => False
  | .fieldAddr s x f => ev1 ρ x fun X => pFA tt s X f K
  | .field s x f => ev1 ρ x fun X => pField tt s X f K
  | .indexAddr t x y => ev2 ρ x y fun X Y => pIA tt t X Y H K
  | .index t x y => ev2 ρ x y fun X Y => pIx tt t X Y K
  | .extract x i => ev1 ρ x fun X => pExt X i K
  | .call c => match c.callee with
    | .builtin b => popB tt ρ H b c.args.toList c.argTypes.toList K
    | _ => callE P ρ H c K
  | _ => False
section
variable {P : Program} {tt : TT} {o : Oper} {ρ : Env} {H : List Ob} {K : Eff → Prop}
theorem intsOf_rep {k : IntKind} : ∀ {xs : List V} {ns : List Int}, intsOf k xs = some ns → ∀ {G : Imm} {φ : Loc} {us : List Value}, repVs G φ xs us → us = ns.map (Value.int k)
  | [], ns, h, G, φ, us, hr => by injection h with h; subst h; exact hr
  | x :: xs, ns, h, G, φ, us, hr => by
    unfold intsOf at h
    split at h
    · rename_i h1; cases h1
    · rename_i j n r heq
      injection heq with h1 h2
      subst h1; subst h2
      cases hk : kindEq j k with
      | false => rw [hk] at h; cases h
      | true =>
        rw [hk] at h
        dsimp only [cond] at h
        split at h
        · rename_i ms hms
          injection h with h; subst h
          obtain ⟨u, us', e, h1, h2⟩ := hr
          rw [e, intsOf_rep hms h2]
          have : u = .int j n := h1
          rw [this, kindEq_spec hk]; rfl
        · cases h
    · cases h
theorem run_max (w : World) (k : IntKind) : ∀ (ns : List Int) (n : Int), ((ns.map (Value.int k)).foldlM Builtin.max2 (.int k n)).run P w = .ok (.int k (maxI n ns)) w
  | [], n => rfl
  | m :: ms, n => by
    rw [List.map_cons, List.foldlM_cons, Sem.run_bind]
    show (Result.ok (Value.int k (if m > n then m else n)) w).andThen _ = _
    exact run_max w k ms _
theorem run_min (w : World) (k : IntKind) : ∀ (ns : List Int) (n : Int), ((ns.map (Value.int k)).foldlM Builtin.min2 (.int k n)).run P w = .ok (.int k (minI n ns)) w
  | [], n => rfl
  | m :: ms, n => by
    rw [List.map_cons, List.foldlM_cons, Sem.run_bind]
    show (Result.ok (Value.int k (if m < n then m else n)) w).andThen _ = _
    exact run_min w k ms _
theorem oprep_list {a : Act} {G : Imm} {φ : Loc} : ∀ {os : List Operand} {zs : List V}, (∀ x ∈ os, x ∈ o.op.operands) → OpRep o ρ a G φ → evs ρ os = some zs → repVs G φ zs (os.map a.eval)
  | [], zs, _, _, hz => by simp [evs] at hz; subst hz; rfl
  | x :: os, zs, hm, hr, hz => by
    unfold evs at hz
    split at hz
    · rename_i X hX
      split at hz
      · rename_i ws hws
        injection hz with hz; subst hz
        exact ⟨_, _, rfl, hr x X (hm x List.mem_cons_self) hX, oprep_list (fun y hy => hm y (List.mem_cons_of_mem _ hy)) hr hws⟩
      · cases hz
    · cases hz
theorem pMM_sem {mx : Bool} {args : Array Operand} {tys : Array TypeId} {xs : List V} (ho : o.op = .call { callee := .builtin (match mx with | true => .max | false => .min), args := args, argTypes := tys }) (hx : evs ρ args.toList = some xs) (h : pMM mx xs K) : ∃ e, K e ∧ Tri P o ρ H e := by
  unfold pMM at h
  split at h
  · rename_i k n r
    split at h
    · rename_i ns hns
      refine kv_sem h fun a G w φ hi hr => ⟨_, ?_, rfl⟩
      have hm : ∀ x ∈ args.toList, x ∈ o.op.operands := by
        intro x hx
        rw [ho]
        simp only [Op.operands, Call.operands]
        cases mx <;> simpa using hx
      have hrep := oprep_list hm hr hx
      obtain ⟨u, us, e1, e2, e3⟩ := hrep
      have e2 : u = .int k n := e2
      have e4 := intsOf_rep hns e3
      have hargs : (args.map a.eval).toList = .int k n :: ns.map (Value.int k) := by rw [Array.toList_map, e1, e2, e4]
      unfold execOp
      rw [ho]
      cases mx with
      | true => simp only [resolve, invoke, builtin, Builtin.max_, Sem.run_bind, Sem.run_pure, Result.andThen_ok, hargs, run_max]
      | false => simp only [resolve, invoke, builtin, Builtin.min_, Sem.run_bind, Sem.run_pure, Result.andThen_ok, hargs, run_min]
    · exact h.elim
  · exact h.elim
theorem lendE_out {zs : List V} {k : List Nat → List V → List Ob → Prop} (h : lendE H zs k) : ∃ ids ys hh, rens (pos ids) zs = some ys ∧ obsAt H (pos ids) ids = some hh ∧ ids.Nodup ∧ k ids ys hh := by
  unfold lendE at h
  dsimp only at h
  split at h
  · rename_i ys hh h1 h2
    obtain ⟨h3, h4⟩ := condP_out h
    exact ⟨_, ys, hh, h1, h2, nodupB_spec h3, h4⟩
  · exact h.elim
theorem fnArgs_run {c : Call} {g : FuncId} {zs : List V} (ho : o.op = .call c) (h : fnArgs ρ c = some (g, zs)) {a : Act} {G : Imm} {φ : Loc} (hr : OpRep o ρ a G φ) (hf : ∃ fn, P.funcs[g]? = some fn ∧ (fn.name == "runtime.NumGoroutine") = false ∧ fn.body.isNone = false) (w : World) :
    ∃ vs : List Value, repVs G φ zs vs ∧ (execOp a.eval o).run P w = .ok (.enter g vs.toArray) w := by
  unfold fnArgs at h
  split at h
  · rename_i f hcal
    split at h
    · rename_i g' first captured hf1
      split at h
      · rename_i xs hxs
        injection h with h
        injection h with h1 h2
        subst h1; subst h2
        have hfm : f ∈ o.op.operands := by rw [ho]; simp [Op.operands, Call.operands, hcal]
        obtain ⟨us, vs, e1, e2, e3⟩ := hr f _ hfm hf1
        have hx := oprep_list (o := o) (a := a) (G := G) (φ := φ) (fun x hx => by rw [ho]; simp [Op.operands, Call.operands]; right; simpa using hx) hr hxs
        refine ⟨us ++ c.args.toList.map a.eval ++ vs, plains_rep _ _ (repVs_append (repVs_append e2 hx) e3), ?_⟩
        obtain ⟨fn, f1, f2, f3⟩ := hf
        unfold execOp
        rw [ho]
        simp only [Sem.run_bind, resolve, hcal, e1, Deferred.ofValue, Sem.run_pure, Result.andThen_ok, invoke, callFunc, run_program, f1, f2, f3, Bool.false_eq_true, if_false]
        congr 2
        apply Array.ext'
        simp
      · cases h
    · cases h
  · cases h
theorem callE_sem {c : Call} (ho : o.op = .call c) (h : callE P ρ H c K) : ∃ e, K e ∧ Tri P o ρ H e := by
  unfold callE at h
  split at h
  · rename_i g zs hargs
    obtain ⟨ids, ys, hh, h1, h2, h3, r, h', hc, hb⟩ := lendE_out h
    unfold backE at hb
    split at hb
    · rename_i x obs hx hobs
      obtain ⟨hlen, hb⟩ := condP_out hb
      have hlen := Nat.le_of_ble_eq_true hlen
      obtain ⟨g1, g2⟩ := obsAt_get h2
      have hlt : ∀ i ∈ ids, i < H.length := fun i hi => by
        obtain ⟨k, hk⟩ := List.getElem?_of_mem hi
        obtain ⟨ob, _, h4, _⟩ := g2 k i hk
        exact lt_of_get h4
      have hol := (obsRen_get hobs).1
      refine ⟨_, hb, ⟨by simp, fun p hp => hlt _ (List.of_mem_zip hp).1, fun a G w φ Hx K Q hs hr ha hf hK => ?_⟩⟩
      obtain ⟨vs, v1, v2⟩ := fnArgs_run (P := P) ho hargs hr hc.1 w
      unfold Oper.wp
      rw [v2, Oper.upon_enter]
      have hag : ∀ i, i ∈ ids → Hx i = H[i]? := fun i hi => by
        refine ha i (.inr ?_)
        obtain ⟨k, hk⟩ := List.getElem?_of_mem hi
        have hkl := lt_of_get hk
        refine ⟨(i, obs[k]), ?_, rfl⟩
        have : (ids.zip obs)[k]? = some (i, obs[k]) := by
          rw [List.getElem?_zip_eq_some]
          exact ⟨hk, List.getElem?_eq_getElem (by omega)⟩
        exact List.mem_of_getElem? this
      have hls := lent_sit hs h3 hag h2
      refine (hc.2 G w (lentLoc φ ids) vs hls (rens_rep (lent_moves φ ids) _ _ _ h1 v1)).mono fun e w' ⟨v, r', h'', G', φ', e1, ⟨e2, e3⟩, e4, e5, e6, e7⟩ => ?_
      subst e1; subst e2; subst e3
      obtain ⟨q1, q2, q3⟩ := call_back (x := x) hs h3 hlt hag h2 e5 e6 e4 hobs (fun i h4 h5 => hf i h4 h5)
      exact hK v _ _ _ q1 q2 (V.ren_rep q3 _ _ _ hx e7)
    · exact hb.elim
  · exact h.elim

/-- Every frame is let in; r: the round's record, if this is a round of a range over a function. -/
def Fr (r : Option Nat) : Fence := { Fence.wide with round := r }
theorem op_in {o : Oper} (hd : ∀ c, o.op ≠ .defer c) {r : Option Nat} {a : Act} {w : World} {Kc : Act → World → Prop} {Q : Exit → Act → World → Prop} (h : o.wp P a w Kc Q) : o.wpIn (Fr r) 0 P a w Kc Q := by
  refine ⟨fun _ _ => trivial, ?_⟩
  rw [Oper.semAt_eq _ _ _ hd]
  unfold Oper.wp at h
  generalize (execOp a.eval o).run P w = res at *
  have hn : (Fr r).depth.isSome = true → 1 ≤ 0 := fun hh => by simp [Fr, Fence.wide] at hh
  cases res with
  | ok x w' =>
    cases x with
    | enter f args => exact ⟨hn, (callsIn_wide (n := 0)).2 h⟩
    | row row args => exact ⟨hn, fun c cs _ => by obtain ⟨v, w2, h1, h2⟩ := h c cs; exact ⟨v, w2, h1, stepsIn_wide.2 h2⟩⟩
    | round => exact h.elim
    | value v => exact h
    | skip => exact h
    | defer d => exact h
    | _ => exact h.elim
  | halt x w' => cases x <;> first | exact h | exact h.elim
/-- The same, one behind the other. -/
def TriS (P : Program) (o : Oper) (ρ : Env) (H : List Ob) (K : Eff → Prop) : Prop :=
  ∀ (r : Option Nat) (a : Act) (G : Imm) (w : World) (φ : Loc) (Kc : Act → World → Prop) (Q : Exit → Act → World → Prop), Sit G w φ (hp H) → OpRep o ρ a G φ →
    (∀ e v G' w' φ', K e → Sit G' w' φ' (hp (updL H e)) → Goes G w φ (hp H) G' w' φ' (hp (updL H e)) → e.x.rep G' φ' v → Kc (a.put o.dst v) w') → o.wpIn (Fr r) 0 P a w Kc Q
theorem TriS.of (hd : ∀ c, o.op ≠ .defer c) (h : ∃ e, K e ∧ Tri P o ρ H e) : TriS P o ρ H K := by
  obtain ⟨e, hk, ht⟩ := h
  intro r a G w φ Kc Q hs hr hK
  refine op_in hd ?_
  refine ht.go a G w φ (hp H) Kc Q hs hr (fun i _ => rfl) (fun i h1 h2 => List.getElem?_eq_none h1) fun v G' w' φ' h1 h2 h3 => ?_
  rw [upd_hp H e ht.wr] at h1 h2
  exact hK e v G' w' φ' hk h1 h2 h3
/-- What the history's object knows of the places, once more blocks are its own. -/
noncomputable def histLoc (φ : Loc) (id : Nat) (B : Nat → Prop) : Loc := fun i n => if i = id then (match n with
  | 0 => φ id 0
  | b + 1 => match φ id (b + 1) with
    | some z => some z
    | none => @ite _ (B b) (Classical.propDecidable _) (some (none, 0)) none) else φ i n
theorem histLoc_ne {φ : Loc} {id : Nat} {B : Nat → Prop} {i : Nat} (h : i ≠ id) (n : Nat) : histLoc φ id B i n = φ i n := by unfold histLoc; rw [if_neg h]
theorem histLoc_0 {φ : Loc} {id : Nat} {B : Nat → Prop} : histLoc φ id B id 0 = φ id 0 := by unfold histLoc; rw [if_pos rfl]
theorem histLoc_B {φ : Loc} {id : Nat} {B : Nat → Prop} (b : Nat) : (histLoc φ id B id (b + 1)).isSome = true ↔ (φ id (b + 1)).isSome = true ∨ B b := by
  unfold histLoc
  rw [if_pos rfl]
  dsimp only
  cases h : φ id (b + 1) with
  | some z => simp
  | none =>
    by_cases hb : B b
    · simp [hb]
    · simp [hb]
theorem histLoc_le {φ : Loc} {id : Nat} {B : Nat → Prop} : φ.le (histLoc φ id B) := fun i n z h => by
  by_cases hi : i = id
  · subst hi
    cases n with
    | zero => rw [histLoc_0]; exact h
    | succ b => unfold histLoc; rw [if_pos rfl]; dsimp only; rw [h]
  · rw [histLoc_ne hi]; exact h
theorem callY_sem {c : Call} (ho : o.op = .call c) (h : callY P ρ H c K) : TriS P o ρ H K := by
  unfold callY at h
  split at h
  · rename_i f hcal
    split at h
    · rename_i id hf
      split at h
      · rename_i zs xs hzs hH
        split at h
        · rename_i ys hys
          obtain ⟨⟨hok, hgo⟩, h⟩ := h
          have hK1 : K ⟨.d (.bool (Amb.go (xs ++ [ys]))), [], [(id, .hist (xs ++ [ys]))], []⟩ := by
            rcases brP_out h with ⟨e, h⟩ | ⟨e, h⟩ <;> rw [e] <;> exact h
          clear h
          intro r a G w φ Kc Q hs hr hK
          have hfm : f ∈ o.op.operands := by rw [ho]; simp [Op.operands, Call.operands, hcal]
          obtain ⟨b, cc, f1, f2⟩ := hr f _ hfm hf
          obtain ⟨⟨c0, j1⟩, j2⟩ := hs.holds id _ hH
          rw [f1] at j1
          injection j1 with j1; injection j1 with j1 j1'; injection j1 with j1; injection j1 with j1 _
          subst j1
          have hx := oprep_list (o := o) (a := a) (G := G) (φ := φ) (fun x hx => by rw [ho]; simp [Op.operands, Call.operands]; right; simpa using hx) hr hzs
          have hv : ∀ φ', repVs G φ' ys (c.args.toList.map a.eval) := fun φ' => rens_rep (f := fun _ => none) (φ1 := φ) (fun i j hij => by cases hij) _ _ _ hys (plains_rep _ _ hx)
          obtain ⟨g, tmps, assign, body, r1, r2⟩ := Amb.yield hok hgo j2 hs.inv hv
          refine ⟨fun _ _ => trivial, ?_⟩
          rw [Oper.semAt_eq _ _ _ (fun c' hc' => by rw [ho] at hc'; cases hc')]
          have run : (execOp a.eval o).run P w = .ok (.round Amb.l g tmps assign body) w := by
            unfold execOp
            rw [ho]
            simp only [Sem.run_bind, resolve, hcal, f2, Deferred.ofValue, Sem.run_pure, Result.andThen_ok, invoke]
            rw [← r1]
            congr 2
            apply Array.ext'
            simp
          rw [run, Oper.uponIn_round]
          refine ⟨fun hh => by simp [Fr, Fence.wide] at hh, RoundIn.mono (F := Fr r) (n := 0) r2 ?_⟩
          rintro e w' ⟨G', B', rfl, q1, q2, q3, ⟨q4, q5, q6, q7⟩, q8, q9, q10⟩
          have hw : ∀ p ∈ [(id, Ob.hist (xs ++ [ys]))], p.1 < H.length := fun p hp => by simp at hp; subst hp; exact lt_of_get hH
          have hst := hs.step (G' := G') (w' := w') (φ' := histLoc φ id B') (H' := fun i => if i = id then some (.hist (xs ++ [ys])) else hp H i) (fun i => i = id) q3 histLoc_le (fun i hi n => histLoc_ne hi n) q4 q5 q6 q7
            (fun k hk hn => q10 k hk (fun hB => hn id _ rfl hH hB)) (fun i hi => if_neg hi) q2
            (fun i ob hi h1 => by
              subst hi; simp at h1; subst h1
              refine ⟨⟨cc, by rw [histLoc_0]; exact f1⟩, ?_⟩
              have e : (fun k => (histLoc φ i B' i (k + 1)).isSome = true) = B' := by
                funext k
                exact propext ((histLoc_B k).trans ⟨fun h => h.elim (q8 k) id, .inr⟩)
              rw [e]; exact q1)
            (fun i j ob1 ob2 k hi hj hij => absurd (hi.trans hj.symm) hij)
            (fun i ob k hi h1 h2 => by
              subst hi; simp at h1; subst h1
              rcases (histLoc_B k).1 h2 with h3 | h3
              · exact .inl ⟨i, _, rfl, hH, h3⟩
              · rcases q9 k h3 with h4 | h4
                · exact .inl ⟨i, _, rfl, hH, h4⟩
                · exact .inr h4)
            (fun i hi h1 => by subst hi; simp at h1)
          have hupd := upd_hp H ⟨.d (.bool (Amb.go (xs ++ [ys]))), [], [(id, .hist (xs ++ [ys]))], []⟩ hw
          rw [upd_one] at hupd
          rw [hupd] at hst
          exact hK _ _ G' w' _ hK1 hst.1 hst.2 rfl
        · exact h.elim
      · exact h.elim
    · exact h.elim
  · exact h.elim
theorem callR_sem {c : Call} (ho : o.op = .call c) (h : callR P ρ H c K) : TriS P o ρ H K := by
  unfold callR at h
  split at h
  · rename_i g zs hargs
    obtain ⟨ids, ys, hh, h1, h2, h3, hc⟩ := lendE_out h
    intro r a G w φ Kc Q hs hr hK
    refine op_in (fun c' hc' => by rw [ho] at hc'; cases hc') ?_
    obtain ⟨g1, g2⟩ := obsAt_get h2
    have hlt : ∀ i ∈ ids, i < H.length := fun i hi => by
      obtain ⟨k, hk⟩ := List.getElem?_of_mem hi
      obtain ⟨ob, _, h4, _⟩ := g2 k i hk
      exact lt_of_get h4
    obtain ⟨vs, v1, v2⟩ := fnArgs_run (P := P) ho hargs hr hc.1 w
    unfold Oper.wp
    rw [v2, Oper.upon_enter]
    have hls := lent_sit (H := H) hs h3 (fun i _ => rfl) h2
    refine (hc.2 G w (lentLoc φ ids) vs hls (rens_rep (lent_moves φ ids) _ _ _ h1 v1)).mono fun e w' ⟨v, r', h'', G', φ', e1, hb, e4, e5, e6, e7⟩ => ?_
    subst e1
    replace hb : backE ids H.length r' h'' K := hb
    unfold backE at hb
    split at hb
    · rename_i x obs hx hobs
      obtain ⟨hlen, hb⟩ := condP_out hb
      obtain ⟨q1, q2, q3⟩ := call_back (x := x) hs h3 hlt (fun i _ => rfl) h2 e5 e6 e4 hobs (fun i h4 h5 => List.getElem?_eq_none h4)
      have hw : ∀ p ∈ ids.zip obs, p.1 < H.length := fun p hp => hlt _ (List.of_mem_zip hp).1
      rw [upd_hp H ⟨x, [], ids.zip obs, obs.drop ids.length⟩ hw] at q1 q2
      exact hK _ v _ _ _ hb q1 q2 (V.ren_rep q3 _ _ _ hx e7)
    · exact hb.elim
  · exact callY_sem ho h
theorem toList1 {α : Type} {A : Array α} {l : List α} (h : A.toList = l) : A = l.toArray := by rw [← h]
theorem popB_sem {c : Call} {b : Builtin} (htt : TTok P tt) (ho : o.op = .call c) (hb : c.callee = .builtin b) (h : popB tt ρ H b c.args.toList c.argTypes.toList K) : ∃ e, K e ∧ Tri P o ρ H e := by
  obtain ⟨cal, args, tys⟩ := c
  simp only at hb
  subst hb
  unfold popB at h
  split at h
  · rename_i x t h1 h2
    obtain ⟨X, hX, h⟩ := ev1_out h
    simp only at h1 h2
    rw [toList1 h1, toList1 h2] at ho
    exact pLen_sem htt ho hX h
  · rename_i x y t u h1 h2
    obtain ⟨X, Y, hX, hY, h⟩ := ev2_out h
    simp only at h1 h2
    rw [toList1 h1, toList1 h2] at ho
    exact pApp_sem htt ho hX hY h
  · obtain ⟨X, hX, h⟩ := evsP_out h
    exact pMM_sem (mx := true) ho hX h
  · obtain ⟨X, hX, h⟩ := evsP_out h
    exact pMM_sem (mx := false) ho hX h
  · exact h.elim
theorem pPick_sem {c x y : Operand} {C : V} (ho : o.op = .pick c x y) (hc : ev ρ c = some C) (h : pPick C (ev ρ x) (ev ρ y) K) : ∃ e, K e ∧ Tri P o ρ H e := by
  unfold pPick at h
  split at h
  · rename_i b
    have hcm : c ∈ o.op.operands := by rw [ho]; simp [Op.operands]
    have hxm : x ∈ o.op.operands := by rw [ho]; simp [Op.operands]
    have hym : y ∈ o.op.operands := by rw [ho]; simp [Op.operands]
    rcases brP_out h with ⟨rfl, h⟩ | ⟨rfl, h⟩
    · cases hX : ev ρ x with
      | none => rw [hX] at h; exact h.elim
      | some X =>
        rw [hX] at h
        refine kv_sem h fun a G w φ hi hr => ⟨a.eval x, ?_, hr x X hxm hX⟩
        have ec : a.eval c = .bool true := hr c _ hcm hc
        unfold execOp
        rw [ho]
        simp [ec, asBool]
    · cases hY : ev ρ y with
      | none => rw [hY] at h; exact h.elim
      | some Y =>
        rw [hY] at h
        refine kv_sem h fun a G w φ hi hr => ⟨a.eval y, ?_, hr y Y hym hY⟩
        have ec : a.eval c = .bool false := hr c _ hcm hc
        unfold execOp
        rw [ho]
        simp [ec, asBool]
  · exact h.elim
theorem popE_sem (htt : TTok P tt) (h : popE P tt ρ H o.op K) : ∃ e, K e ∧ Tri P o ρ H e := by
  generalize hop : o.op = q at h
  unfold popE at h
  split at h
  case h_1 => obtain ⟨X, hX, h⟩ := ev1_out h; exact pMove_sem (.inl hop) hX h
  case h_2 => obtain ⟨X, hX, h⟩ := ev1_out h; exact pMove_sem (.inr hop) hX h
  case h_3 => exact pAlloc_sem htt hop h
  case h_4 => obtain ⟨X, hX, h⟩ := ev1_out h; exact pBox_sem hop hX h
  case h_5 => obtain ⟨X, hX, h⟩ := evPartsP_out h; exact pBuild_sem htt hop hX h
  case h_6 => obtain ⟨X, hX, h⟩ := evPartsP_out h; exact pBS_sem htt hop hX h
  case h_7 => obtain ⟨X, hX, h⟩ := ev1_out h; exact pLoad_sem htt hop hX h
  case h_8 => obtain ⟨X, Y, hX, hY, h⟩ := ev2_out h; exact pStore_sem htt hop hX hY h
  case h_9 => obtain ⟨X, hX, h⟩ := ev1_out h; exact pNil_sem hop hX h
  case h_10 => obtain ⟨X, Y, hX, hY, h⟩ := ev2_out h; exact pBin_sem htt hop hX hY h
  case h_11 => obtain ⟨X, hX, h⟩ := ev1_out h; exact pUn_sem hop hX h
  case h_12 => obtain ⟨X, hX, h⟩ := ev1_out h; exact pPick_sem hop hX h
  case h_13 => obtain ⟨X, hX, h⟩ := ev1_out h; exact pConv_sem htt hop hX h
  case h_14 =>
    obtain ⟨X, hX, h⟩ := evsP_out h
    obtain ⟨Y, hY, h⟩ := evsP_out h
    exact pFn_sem hop hX hY h
  case h_15 => obtain ⟨X, Y, hX, hY, h⟩ := ev2_out h; exact pMake_sem htt hop hX hY h
  case h_16 =>
    obtain ⟨X, hX, h⟩ := ev1_out h
    split at h
    · rename_i h1 h2; exact pCut_sem htt hop hX h1 h2 h
    · exact h.elim
  case h_17 => obtain ⟨X, hX, h⟩ := ev1_out h; exact pFA_sem htt hop hX h
  case h_18 => obtain ⟨X, hX, h⟩ := ev1_out h; exact pField_sem htt hop hX h
  case h_19 => obtain ⟨X, Y, hX, hY, h⟩ := ev2_out h; exact pIA_sem htt hop hX hY h
  case h_20 => obtain ⟨X, Y, hX, hY, h⟩ := ev2_out h; exact pIx_sem htt hop hX hY h
  case h_21 => obtain ⟨X, hX, h⟩ := ev1_out h; exact pExt_sem hop hX h
  case h_22 =>
    split at h
    · rename_i b hb; exact popB_sem htt hop hb h
    · exact callE_sem hop h
  case h_23 => exact h.elim
end
end Go.Proofs.Ytlafnhpmhflnaaa.Q
