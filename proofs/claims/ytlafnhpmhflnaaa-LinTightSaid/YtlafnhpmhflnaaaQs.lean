/- Code step by step; a function out of its code. No condition. -/
import Derived.Test.YtlafnhpmhflnaaaQr
import Derived.RangeFuncLeaves
import Derived.RangeFuncRecord
set_option linter.unusedVariables false
set_option linter.unusedSectionVars false
set_option linter.unnecessarySimpa false
set_option linter.unusedSimpArgs false
namespace Go.Proofs.Ytlafnhpmhflnaaa.Q
variable [Amb]
/-- What a piece of code comes to; at a loop, a scope, a range over a function the logic's own word is left. -/
def step (P : Program) (tt : TT) (n : Nat) (k : Md) (c : Code) : Env → List Ob → Post → Prop :=
  @Code.rec (fun _ => Env → List Ob → Post → Prop)
    (fun ρ H Q => Q .normal ρ H)
    (fun _ ops draw ρ H Q => match draw with
      | false => pops P tt n ops.toList ops.toList ρ H (Q .normal)
      | true => pd P tt n ops.toList ops.toList 0 ρ H [] (Q .normal))
    (fun _ _ a b ρ H Q => a ρ H (seqK (fun ρ' H' => b ρ' H' Q) Q))
    (fun c _ _ x y ρ H Q => condC ρ c (x ρ H Q) (y ρ H Q))
    (fun id _ c ρ H Q => c ρ H (blkK id Q))
    (fun c _ ρ H Q => SWp P n k (.loop c) ρ H Q)
    (fun f ps a b _ _ ρ H Q => SWp P n k (.rangeFunc f ps a b) ρ H Q)
    (fun id ρ H Q => Q (.exit id) ρ H)
    (fun c _ ρ H Q => SWp P n k (.scope c) ρ H Q)
    (fun _ ρ H Q => Q .normal ρ H)
    (fun l ρ H Q => Q (.goto l) ρ H)
    (fun ρ H Q => Q .ret ρ H)
    (fun _ _ _ _ => False) c
/-- Every region of the code whose order is open has its slots apart. -/
def codeOk : Code → Bool
  | .region _ ops draw => match draw with
    | true => slotsB ops.toList && noDefer ops.toList
    | false => true
  | .seq a b => codeOk a && codeOk b
  | .cond _ x y => codeOk x && codeOk y
  | .block _ c => codeOk c
  | _ => true
section
variable {P : Program} {tt : TT} {n : Nat} {k : Md}
theorem condC_mono {ρ : Env} {c : Operand} {A B A' B' : Prop} (h : condC ρ c A B) (ha : A → A') (hb : B → B') : condC ρ c A' B' := by
  unfold condC at *
  split
  · rename_i b hbb
    rw [hbb] at h
    cases b
    · exact hb h
    · exact ha h
  · rename_i hno
    split at h
    · rename_i b hbb; exact absurd hbb (hno b)
    · exact h
theorem SWp.go (hP : POk P tt) {c : Code} : codeOk c = true → ∀ {ρ : Env} {H : List Ob} {Q : Post}, step P tt n k c ρ H Q → SWp P n k c ρ H Q := by
  induction c with
  | skip => intro _ ρ H Q h; exact SWp.skip h
  | region id ops draw =>
    intro hc ρ H Q h
    cases draw with
    | false => exact SWp.region hP h
    | true => exact SWp.regionAny hP ((Bool.and_eq_true _ _).mp hc).1 ((Bool.and_eq_true _ _).mp hc).2 h
  | seq a b iha ihb =>
    intro hc ρ H Q h
    simp only [codeOk, Bool.and_eq_true] at hc
    refine SWp.seq (SWp.mono (iha hc.1 h) fun pe ρ' H' hq => ?_)
    cases pe with
    | normal => exact ihb hc.2 hq
    | exit id => exact hq
    | goto l => exact hq
    | ret => exact hq
  | cond c x y ihx ihy =>
    intro hc ρ H Q h
    simp only [codeOk, Bool.and_eq_true] at hc
    exact SWp.cond (condC_mono h (ihx hc.1) (ihy hc.2))
  | block id c ih => intro hc ρ H Q h; exact SWp.block (ih hc h)
  | loop c ih => intro _ ρ H Q h; exact h
  | rangeFunc f ps a b => intro _ ρ H Q h; exact h
  | exit id => intro _ ρ H Q h; exact SWp.exit h
  | scope c ih => intro _ ρ H Q h; exact h
  | label l => intro _ ρ H Q h; exact SWp.label h
  | goto l => intro _ ρ H Q h; exact SWp.goto h
  | ret => intro _ ρ H Q h; exact SWp.ret h
  | refuse s => intro _ ρ H Q h; exact h.elim

/-! ### scopes -/
def jmpK (l : Nat) (J : Env → List Ob → Prop) (Q : Post) : Post := fun pe ρ H => match pe with
  | .goto l' => bif Nat.beq l' l then J ρ H else False
  | pe => Q pe ρ H
theorem stepR_scope {b : Frame} {a : Act} {kk : List Item} {cs : List Frame} {w : World} {c : Code} : Go.step P (lone (b.atR a (.code (.scope c) :: kk)) cs w) = .next (lone (b.atR a (.code c :: .inScope c :: kk)) cs w) :=
  step_lone_go (by simp [stepG, stepG.exec, Frame.atR])
theorem stepR_inScope {b : Frame} {a : Act} {kk : List Item} {cs : List Frame} {w : World} {c : Code} : Go.step P (lone (b.atR a (.inScope c :: kk)) cs w) = .next (lone (b.atR a kk) cs w) :=
  step_lone_go (by simp [stepG, stepG.exec, Frame.atR])
/-- A scope with jumps to one label, each ahead or made smaller by a measure. -/
theorem SWp.scope {α : Type} {c rest : Code} {ρ : Env} {H : List Ob} {Q : Post} (l : Nat) (hf : findLabel c l = some rest) (I : α → Prop) (st : α → Env × List Ob) (μ : α → Nat)
    (first : SWp P n k c ρ H (jmpK l (fun ρ' H' => ∃ y, I y ∧ Le k (st y).1 (st y).2 ρ' H') Q))
    (pass : ∀ x, I x → SWp P n k rest (st x).1 (st x).2 (jmpK l (fun ρ' H' => ∃ y, I y ∧ μ y < μ x ∧ Le k (st y).1 (st y).2 ρ' H') Q)) : SWp P n k (.scope c) ρ H Q := by
  intro G1 w1 φ1 H1 G w φ a Qc hk hr hg hQ b kk cs hro hb hrm
  have hgt : gotoIn l (.inScope c :: kk) = some (.code rest :: .inScope c :: kk) := by simp [gotoIn, hf]
  have key : ∀ (m : Nat) (a : Act) (w : World), (∃ x G φ, I x ∧ μ x = m ∧ Rep n G w φ (st x).1 (st x).2 a ∧ GoM G1 w1 φ1 H1 G w φ (hp (st x).2) a) →
      ∃ e a' w', Qc e a' w' ∧ ArrivesIn (Machine.fenced P (Fr k.r)) P (lone (b.atR a (.code rest :: .inScope c :: kk)) cs w) b kk cs e a' w' := by
    intro m
    induction m using Nat.strongRecOn with
    | _ m ih =>
      intro a w ⟨x, G, φ, hI, hm, hr, hg⟩
      have := pass x hI G1 w1 φ1 H1 G w φ a (Exit.jump l (fun a' w' => ∃ m', m' < m ∧ ∃ x G φ, I x ∧ μ x = m' ∧ Rep n G w' φ (st x).1 (st x).2 a' ∧ GoM G1 w1 φ1 H1 G w' φ (hp (st x).2) a') Qc) hk hr hg fun pe ρ' H' G' w' φ' a' hq hr' hg' => by
        cases pe with
        | normal => exact hQ .normal ρ' H' G' w' φ' a' hq hr' hg'
        | exit id => exact hQ (.exit id) ρ' H' G' w' φ' a' hq hr' hg'
        | goto l' =>
          simp only [jmpK] at hq
          cases hb : Nat.beq l' l with
          | false => rw [hb] at hq; exact hq.elim
          | true =>
            rw [hb] at hq
            obtain ⟨y, hy, hlt, hle'⟩ := hq
            obtain ⟨φ2, hr2, hg2⟩ := hr'.less hk hg' hle'
            exact ⟨Nat.eq_of_beq_eq_true hb, μ y, by omega, y, G', φ2, hy, rfl, hr2, hg2⟩
        | ret => exact hQ .ret ρ' H' G' w' φ' a' hq hr' hg'
      obtain ⟨e, a1, w2, hq, harr⟩ := this b (.inScope c :: kk) cs hro hb hrm
      cases e with
      | normal => exact ⟨.normal, a1, w2, hq, StepsIn.trans harr (.one (fenced_calm hb hrm rfl) stepR_inScope)⟩
      | exit id => exact ⟨.exit id, a1, w2, hq, fun k' hk => harr.1 k' (by simp [exitTo, hk]), fun hr' hk => harr.2 hr' (by simp [exitTo, hk])⟩
      | goto l' =>
        obtain ⟨rfl, m', hlt, hx⟩ := hq
        obtain ⟨e2, a2, w3, hq2, harr2⟩ := ih m' hlt a1 w2 hx
        exact ⟨e2, a2, w3, hq2, .of_steps (harr.1 _ hgt) harr2⟩
      | ret => exact ⟨_, a1, w2, hq, harr⟩
      | panic ch => exact ⟨_, a1, w2, hq, harr⟩
      | outgrown => exact ⟨_, a1, w2, hq, harr⟩
  have := first G1 w1 φ1 H1 G w φ a (Exit.jump l (fun a' w' => ∃ x G φ, I x ∧ Rep n G w' φ (st x).1 (st x).2 a' ∧ GoM G1 w1 φ1 H1 G w' φ (hp (st x).2) a') Qc) hk hr hg fun pe ρ' H' G' w' φ' a' hq hr' hg' => by
    cases pe with
    | normal => exact hQ .normal ρ' H' G' w' φ' a' hq hr' hg'
    | exit id => exact hQ (.exit id) ρ' H' G' w' φ' a' hq hr' hg'
    | goto l' =>
      simp only [jmpK] at hq
      cases hb : Nat.beq l' l with
      | false => rw [hb] at hq; exact hq.elim
      | true =>
        rw [hb] at hq
        obtain ⟨y, hy, hle'⟩ := hq
        obtain ⟨φ2, hr2, hg2⟩ := hr'.less hk hg' hle'
        exact ⟨Nat.eq_of_beq_eq_true hb, y, G', φ2, hy, hr2, hg2⟩
    | ret => exact hQ .ret ρ' H' G' w' φ' a' hq hr' hg'
  obtain ⟨e, a1, w2, hq, harr⟩ := this b (.inScope c :: kk) cs hro hb hrm
  cases e with
  | normal => exact ⟨.normal, a1, w2, hq, .head (fenced_calm hb hrm rfl) stepR_scope (StepsIn.trans harr (.one (fenced_calm hb hrm rfl) stepR_inScope))⟩
  | exit id => exact ⟨.exit id, a1, w2, hq, fun k' hk => .head (fenced_calm hb hrm rfl) stepR_scope (harr.1 k' (by simp [exitTo, hk])), fun hr' hk => let ⟨k1, h1, h2⟩ := harr.2 hr' (by simp [exitTo, hk]); ⟨k1, h1, .head (fenced_calm hb hrm rfl) stepR_scope h2⟩⟩
  | goto l' =>
    obtain ⟨rfl, x, G, φ, h1, h2, h3⟩ := hq
    obtain ⟨e2, a2, w3, hq2, harr2⟩ := key _ a1 w2 ⟨x, G, φ, h1, rfl, h2, h3⟩
    exact ⟨e2, a2, w3, hq2, .of_steps (.head (fenced_calm hb hrm rfl) stepR_scope (harr.1 _ hgt)) harr2⟩
  | ret => exact ⟨_, a1, w2, hq, .of_steps (.one (fenced_calm hb hrm rfl) stepR_scope) harr⟩
  | panic ch => exact ⟨_, a1, w2, hq, .of_steps (.one (fenced_calm hb hrm rfl) stepR_scope) harr⟩
  | outgrown => exact ⟨_, a1, w2, hq, .of_steps (.one (fenced_calm hb hrm rfl) stepR_scope) harr⟩
/-- A scope without jumps. -/
def noJ (Q : Post) : Post := fun pe ρ H => match pe with
  | .goto _ => False
  | pe => Q pe ρ H
theorem SWp.scope0 {c : Code} {ρ : Env} {H : List Ob} {Q : Post} (h : SWp P n k c ρ H (noJ Q)) : SWp P n k (.scope c) ρ H Q := by
  intro G1 w1 φ1 H1 G w φ a Qc hk hr hg hQ b kk cs hro hb hrm
  have := h G1 w1 φ1 H1 G w φ a (Exit.noGoto Qc) hk hr hg fun pe ρ' H' G' w' φ' a' hq hr' hg' => by
    cases pe with
    | normal => exact hQ _ ρ' H' G' w' φ' a' hq hr' hg'
    | exit id => exact hQ _ ρ' H' G' w' φ' a' hq hr' hg'
    | goto l => exact hq.elim
    | ret => exact hQ _ ρ' H' G' w' φ' a' hq hr' hg'
  obtain ⟨e, a1, w2, hq, harr⟩ := this b (.inScope c :: kk) cs hro hb hrm
  cases e with
  | normal => exact ⟨.normal, a1, w2, hq, .head (fenced_calm hb hrm rfl) stepR_scope (StepsIn.trans harr (.one (fenced_calm hb hrm rfl) stepR_inScope))⟩
  | exit id => exact ⟨.exit id, a1, w2, hq, fun k' hk => .head (fenced_calm hb hrm rfl) stepR_scope (harr.1 k' (by simp [exitTo, hk])), fun hr' hk => let ⟨k1, h1, h2⟩ := harr.2 hr' (by simp [exitTo, hk]); ⟨k1, h1, .head (fenced_calm hb hrm rfl) stepR_scope h2⟩⟩
  | goto l' => exact hq.elim
  | ret => exact ⟨_, a1, w2, hq, .of_steps (.one (fenced_calm hb hrm rfl) stepR_scope) harr⟩
  | panic ch => exact ⟨_, a1, w2, hq, .of_steps (.one (fenced_calm hb hrm rfl) stepR_scope) harr⟩
  | outgrown => exact ⟨_, a1, w2, hq, .of_steps (.one (fenced_calm hb hrm rfl) stepR_scope) harr⟩

/-! ### functions -/
def argEnv : Nat → List V → Env
  | _, [] => []
  | i, x :: xs => (i, x) :: argEnv (i + 1) xs
def resV (tt : TT) (ρ : Env) (H : List Ob) : ResultVar → Option V
  | .tmp t => lk ρ t
  | .cell a t => match lk ρ a, tt t with
    | some (.ptr id off), some e => match H[id]? with
      | some (.box cells) => match e.kind.agg with
        | true => bif Nat.ble (off + e.size) cells.length then some (.agg ((cells.drop off).take e.size)) else none
        | false => cells[off]?
      | _ => none
    | _, _ => none
def resVs (tt : TT) (ρ : Env) (H : List Ob) : List ResultVar → Option (List V)
  | [] => some []
  | r :: rs => match resV tt ρ H r with
    | some x => match resVs tt ρ H rs with
      | some xs => some (x :: xs)
      | none => none
    | none => none
def resAll : List V → V
  | [x] => x
  | xs => .tup xs
def keepIds (H : List Ob) (k : Nat) (r : V) : List Nat := List.range k ++ (reach H 1000 (List.range k ++ r.ids) []).filter fun i => Nat.ble k i
def finP (H : List Ob) (k : Nat) (r : V) (R : V → List Ob → Prop) : Prop :=
  match r.ren (pos (keepIds H k r)), obsAt H (pos (keepIds H k r)) (keepIds H k r) with
  | some r', some h' => condP (nodupB (keepIds H k r)) (R r' h')
  | _, _ => False
def fnPost (tt : TT) (rs : List ResultVar) (k : Nat) (R : V → List Ob → Prop) : Post := fun pe ρ H =>
  match pe with
  | .normal => match resVs tt ρ H rs with
    | some xs => finP H k (resAll xs).plain R
    | none => False
  | .ret => match resVs tt ρ H rs with
    | some xs => finP H k (resAll xs).plain R
    | none => False
  | _ => False
theorem argEnv_lk : ∀ (xs : List V) (i t : Nat), lk (argEnv i xs) t = if i ≤ t then xs[t - i]? else none
  | [], i, t => by simp [argEnv, lk]
  | x :: xs, i, t => by
    rw [argEnv, lk_put]
    by_cases h : i = t
    · subst h; simp
    · rw [if_neg h, argEnv_lk xs (i + 1) t]
      by_cases h2 : i ≤ t
      · rw [if_pos (by omega), if_pos h2, show t - i = (t - (i + 1)) + 1 by omega]; simp
      · rw [if_neg (by omega), if_neg h2]
def resF (tmps : Array Value) : ResultVar → Sem Value
  | .tmp t => pure (tmps.getD t undef)
  | .cell p t => do loadVar t (← asAddr (tmps.getD p undef))
theorem results_eq (fn : Func) (tmps : Array Value) : results fn tmps = (do
    let vs ← fn.results.mapM (resF tmps)
    pure (if h : vs.size = 1 then vs[0] else .tuple vs)) := by
  unfold results
  congr 1
theorem run_res (htt : TTok P tt) {G : Imm} {w : World} {φ : Loc} {ρ : Env} {H : List Ob} {a : Act} (hs : Sit G w φ (hp H)) (henv : EnvOk G φ ρ a) : ∀ {rs : List ResultVar} {xs : List V}, resVs tt ρ H rs = some xs →
    ∃ us : List Value, (rs.mapM (resF a.tmps)).run P w = .ok us w ∧ repVs G φ xs us
  | [], xs, h => by simp [resVs] at h; subst h; exact ⟨[], rfl, rfl⟩
  | r :: rs, xs, h => by
    unfold resVs at h
    split at h
    · rename_i x hx
      split at h
      · rename_i ys hys
        injection h with h; subst h
        obtain ⟨us, h1, h2⟩ := run_res htt hs henv hys
        have one : ∃ v, (resF a.tmps r).run P w = .ok v w ∧ x.rep G φ v := by
          cases r with
          | tmp t =>
            obtain ⟨v, v1, v2⟩ := henv t x hx
            exact ⟨v, by simp [resF, Array.getD_eq_getD_getElem?, v1], v2⟩
          | cell p t =>
            unfold resV at hx
            dsimp only at hx
            split at hx
            · rename_i id off e hp he
              split at hx
              · rename_i cells hH
                obtain ⟨v, v1, b, c, v2, v3⟩ := henv p _ hp
                obtain ⟨b', c', T, us', k1, k2, k3, k4, k5⟩ := hs.holds id _ hH
                rw [v2] at k1; injection k1 with k1; injection k1 with k1 k1'; injection k1 with k1; injection k1 with k1; subst k1
                have hl := repVs_len k3
                have hp' : a.tmps.getD p undef = .pointer (some ⟨b, off, none⟩) := by simp [Array.getD_eq_getD_getElem?, v1, v3]
                split at hx
                · rename_i hagg
                  cases hc : Nat.ble (off + e.size) cells.length with
                  | false => rw [hc] at hx; cases hx
                  | true =>
                    rw [hc] at hx
                    have hle := Nat.le_of_ble_eq_true hc
                    injection hx with hx; subst hx
                    refine ⟨.agg ((us'.drop off).take e.size).toArray, ?_, ⟨_, rfl, repVs_take (repVs_drop k3 _) _, fun u hu => k4 u (List.mem_of_mem_drop (List.mem_of_mem_take hu))⟩⟩
                    have := run_loadVar_many (P := P) w htt he hagg b off ((us'.drop off).take e.size) (by simp; omega) (fun j v hj => by
                      rw [cell_us w k2, ← List.getElem?_drop]
                      rw [List.getElem?_take] at hj
                      split at hj
                      · exact hj
                      · cases hj)
                    simp [resF, hp', asAddr, this]
                · rename_i hagg
                  obtain ⟨u, u1, u2⟩ := repVs_get k3 off x hx
                  refine ⟨u, ?_, u2⟩
                  have := run_loadVar_one (P := P) w htt he hagg b off (by rw [cell_us w k2, u1])
                  simp [resF, hp', asAddr, this]
              · cases hx
            · cases hx
        obtain ⟨v, v1, v2⟩ := one
        refine ⟨v :: us, ?_, ⟨v, us, rfl, v2, h2⟩⟩
        rw [List.mapM_cons, Sem.run_bind, v1]
        simp only [Result.andThen_ok, Sem.run_bind, h1, Sem.run_pure]
      · cases h
    · cases h
theorem putObj_heap (w : World) (D : Nat) (o : Obj) {k : Nat} (h : k ≠ D) : (w.putObj D o).heap[k]? = w.heap[k]? := World.putObj_heap_other h
theorem marks_leave {fn : Func} {tmps : Array Value} {R : Ending → World → Prop} {G0 : Imm} {w0 : World} {φ0 : Loc} {H0 : Hp} {G : Imm} {φ : Loc} {Hx : Hp}
    (k : ∀ w, Sit G w φ Hx → Goes G0 w0 φ0 H0 G w φ Hx → LeavesIn (Fr none) 0 P fn tmps R [] .returning w) :
    ∀ (ds : List Deferred) (w : World), Mk w0.heap.size w φ Hx ds → Sit G w φ Hx → Goes G0 w0 φ0 H0 G w φ Hx → LeavesInM (Fr none) 0 P fn tmps R ds .returning w
  | [], w, _, hs, hg => k w hs hg
  | d :: ds, w, ⟨⟨h0, D, h1, h2, h3, h4⟩, h5⟩, hs, hg => by
    subst h1
    have hne : ∀ b o v, G b o = some v → b ≠ D := fun b o v hb e => by
      subst e
      have := hs.inv b o v hb
      simp [World.cell?, h3] at this
    have hs1 : Sit G (w.putObj D (.deferred none)) φ Hx := by
      refine ⟨fun b o v hb => ?_, fun i ob hi => (hs.holds i ob hi).keep (Imm.le.refl _) (Loc.le.refl _) (fun _ => rfl) (fun b hb => ⟨putObj_heap w D _ (fun e => h4 ⟨i, ob, hi, e ▸ hb⟩), fun _ => rfl⟩), hs.dist, hs.un⟩
      have h6 := hs.inv b o v hb
      unfold World.cell? at h6 ⊢
      rw [putObj_heap w D _ (hne b o v hb)]
      exact h6
    have hg1 : Goes G0 w0 φ0 H0 G (w.putObj D (.deferred none)) φ Hx :=
      ⟨hg.le, hg.ple, hg.os, hg.tape, hg.output, by rw [World.putObj_size]; exact hg.size, fun b hb hn => ⟨(putObj_heap w D _ (by omega)).trans (hg.block b hb hn).1, (hg.block b hb hn).2⟩, hg.owns⟩
    refine ⟨by simp, .inl ⟨D, _, rfl, run_takeDeferred h3, marks_leave k ds _ ?_ hs1 hg1⟩⟩
    have go : ∀ (l : List Deferred), { target := .collected D, args := #[] } ∉ l → Mk w0.heap.size w φ Hx l → Mk w0.heap.size (w.putObj D (.deferred none)) φ Hx l := by
      intro l
      induction l with
      | nil => intro _ _; trivial
      | cons e l ih =>
        rintro hn ⟨⟨a0, D', a1, a2, a3, a4⟩, a5⟩
        refine ⟨⟨a0, D', a1, a2, (putObj_heap w D _ (fun hh => hn ?_)).trans a3, a4⟩, ih (fun hh => hn (List.mem_cons_of_mem _ hh)) a5⟩
        subst hh; subst a1; exact List.mem_cons_self
    exact go ds h0 h5
theorem fn_sem (hP : POk P tt) {f : FuncId} {fn : Func} {c : Code} {args : List V} {h : List Ob} {R : V → List Ob → Prop} {rs : List ResultVar} (m kk : Nat) (hf : P.funcs[f]? = some fn) (hname : (fn.name == "runtime.NumGoroutine") = false) (hb : fn.body = some c) (hm : args.length + (fn.ntmps - args.length) = m) (hkk : h.length = kk) (hrs : fn.results.toList = rs)
    (hw : SWp P m ⟨kk, none⟩ c (argEnv 0 args) h (fnPost tt rs kk R)) : PCalls P f args h R := by
  subst hm
  subst hkk
  subst hrs
  refine ⟨⟨fn, hf, hname, by rw [hb]; rfl⟩, fun G w φ vs hs hr => ?_⟩
  have hvl := repVs_len hr
  refine (callsIn_wide (n := 0)).1 (callsIn_of_wp_marks (F := Fr none) hf hb trivial ?_ rfl)
  refine hw G w φ (hp h) G w φ _ _ (fun i hi m => hs.un i (List.getElem?_eq_none hi) m) ⟨hs, fun t x hx => ?_, by simp [hvl]⟩ ⟨Goes.refl _ _ _ _, trivial⟩ ?_
  · rw [argEnv_lk] at hx
    simp at hx
    obtain ⟨u, u1, u2⟩ := repVs_get hr t x hx
    refine ⟨u, ?_, u2⟩
    have hlt := lt_of_get u1
    show (vs.toArray ++ _)[t]? = some u
    rw [Array.getElem?_append_left (by simpa using hlt)]
    simpa using u1
  · intro pe ρ' H' G' w2 φ' a' hq hr2 hgm
    have fin : ∀ w', Sit G' w' φ' (hp H') → Goes G w φ (hp h) G' w' φ' (hp H') → (match resVs tt ρ' H' fn.results.toList with | some xs => finP H' h.length (resAll xs).plain R | none => False) → ∃ v, (results fn a'.tmps).run P w' = .ok v w' ∧ ∃ v1 r h' G1 φ1, Ending.returned v = .returned v1 ∧ R r h' ∧ h.length ≤ h'.length ∧ Sit G1 w' φ1 (hp h') ∧ Goes G w φ (hp h) G1 w' φ1 (hp h') ∧ r.rep G1 φ1 v1 := by
      intro w' hs' hg' hq
      split at hq
      · rename_i xs hxs
        obtain ⟨us, u1, u2⟩ := run_res (P := P) hP.tt hs' hr2.env hxs
        have hres : ∃ v, (results fn a'.tmps).run P w' = .ok v w' ∧ (resAll xs).rep G' φ' v := by
          refine ⟨if h : us.toArray.size = 1 then us.toArray[0] else .tuple us.toArray, ?_, ?_⟩
          · rw [results_eq, Array.mapM_eq_mapM_toList]
            simp only [Sem.run_bind, Sem.run_map, u1, Result.andThen_ok]
            rfl
          · have hl := repVs_len u2
            match xs, us, u2, hl with
            | [], [], u2, _ => exact ⟨[], rfl, rfl⟩
            | [x], [u], u2, _ =>
              obtain ⟨v, us', e, h1, h2⟩ := u2
              injection e with e1 e2; subst e1
              exact h1
            | x :: y :: zs, u :: v :: us', u2, _ => exact ⟨_, rfl, u2⟩
        obtain ⟨v, v1, v2⟩ := hres
        have v3 := V.plain_rep _ v v2
        unfold finP at hq
        split at hq
        · rename_i r' h' hr1 hh1
          obtain ⟨hnd, hR⟩ := condP_out hq
          have hnd := nodupB_spec hnd
          have hls := lent_sit (H := H') hs' hnd (fun i _ => rfl) hh1
          obtain ⟨hl, hget⟩ := obsAt_get hh1
          refine ⟨v, v1, v, r', h', G', lentLoc φ' (keepIds H' h.length (resAll xs).plain), rfl, hR, ?_, hls, ⟨hg'.le, fun i m z hz => ?_, hg'.os, hg'.tape, hg'.output, hg'.size, hg'.block, fun b hb => ?_⟩, V.ren_rep (lent_moves φ' _) _ _ _ hr1 v3⟩
          · rw [hl]; simp [keepIds]
          · have hi : i < h.length := by
              rcases Nat.lt_or_ge i h.length with h1 | h1
              · exact h1
              · rw [hs.un i (List.getElem?_eq_none h1) m] at hz; cases hz
            have e1 : (keepIds H' h.length (resAll xs).plain)[i]? = some i := by
              unfold keepIds
              rw [List.getElem?_append_left (by simpa using hi), List.getElem?_range hi]
            unfold lentLoc
            rw [e1]
            exact hg'.ple i m z hz
          · obtain ⟨i, ob, hi, ho⟩ := hb
            have hil := lt_of_get hi
            have e1 : (keepIds H' h.length (resAll xs).plain)[i]? = some (keepIds H' h.length (resAll xs).plain)[i] := List.getElem?_eq_getElem (by omega)
            obtain ⟨ob0, ob', g1, g2, g3⟩ := hget i _ e1
            have hi' : h'[i]? = some ob := hi
            rw [hi'] at g3; injection g3 with g3; subst g3
            refine hg'.owns b ⟨_, ob0, g1, ?_⟩
            rw [← Ob.ren_own (φ2 := lentLoc φ' (keepIds H' h.length (resAll xs).plain)) (i := i) (fun m => by unfold lentLoc; rw [e1]) g2]
            exact ho
        · exact hq.elim
      · exact hq.elim
    have out : (match resVs tt ρ' H' fn.results.toList with | some xs => finP H' h.length (resAll xs).plain R | none => False) → LeavesInM (Fr none) 0 P fn a'.tmps (fun e w' => ∃ v r h' G1 φ1, e = .returned v ∧ R r h' ∧ h.length ≤ h'.length ∧ Sit G1 w' φ1 (hp h') ∧ Goes G w φ (hp h) G1 w' φ1 (hp h') ∧ r.rep G1 φ1 v) a'.defers .returning w2 := fun hq =>
      marks_leave (fun w' hs' hg' => by rw [LeavesIn]; exact fin w' hs' hg' hq) a'.defers w2 hgm.mks hr2.sit hgm.go
    cases pe with
    | normal => exact out hq
    | exit id => exact hq.elim
    | goto l => exact hq.elim
    | ret => exact out hq
end
end Go.Proofs.Ytlafnhpmhflnaaa.Q
