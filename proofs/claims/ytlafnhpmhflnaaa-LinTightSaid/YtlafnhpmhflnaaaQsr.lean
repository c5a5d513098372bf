/- A range over a function. No condition. -/
import Derived.Test.YtlafnhpmhflnaaaQs
set_option linter.unusedVariables false
set_option linter.unusedSectionVars false
set_option linter.unnecessarySimpa false
set_option linter.unusedSimpArgs false
namespace Go.Proofs.Ytlafnhpmhflnaaa.Q
/-! ### what is lent is dead for the caller -/
def kill : List Ob → List Nat → List Ob
  | H, [] => H
  | H, i :: r => kill (H.set i .dead) r
theorem kill_len : ∀ (ids : List Nat) (H : List Ob), (kill H ids).length = H.length
  | [], H => rfl
  | i :: r, H => by rw [kill, kill_len r]; simp
theorem kill_get : ∀ (ids : List Nat) (H : List Ob) (i : Nat), (i ∈ ids → ∀ ob, (kill H ids)[i]? = some ob → ob = .dead) ∧ (i ∉ ids → (kill H ids)[i]? = H[i]?)
  | [], H, i => ⟨fun h => by simp at h, fun _ => rfl⟩
  | j :: r, H, i => by
    rw [kill]
    have ih := kill_get r (H.set j .dead) i
    refine ⟨fun h ob hob => ?_, fun h => ?_⟩
    · by_cases hr : i ∈ r
      · exact ih.1 hr ob hob
      · rw [ih.2 hr] at hob
        have : i = j := by simpa [hr] using h
        subst this
        rw [List.getElem?_set] at hob
        simp at hob
        exact hob.2.symm
    · simp at h
      rw [ih.2 h.2, List.getElem?_set, if_neg (fun e => h.1 e.symm)]
def noHist : List Ob → Bool
  | [] => true
  | ob :: r => match ob with | .hist _ => false | _ => noHist r
theorem noHist_get : ∀ {h : List Ob}, noHist h = true → ∀ (i : Nat) xs, h[i]? ≠ some (.hist xs)
  | [], _, i, xs, e => by simp at e
  | ob :: r, hn, i, xs, e => by
    unfold noHist at hn
    cases i with
    | zero => simp at e; subst e; simp at hn
    | succ i =>
      have : noHist r = true := by cases ob <;> first | exact hn | simp at hn
      exact noHist_get this i xs (by simpa using e)
theorem holds_any {A A' : Amb} {G : Imm} {w : World} {φ : Loc} {i : Nat} {ob : Ob} (hn : ∀ xs, ob ≠ .hist xs) (h : @Holds A G w φ i ob) : @Holds A' G w φ i ob := by
  cases ob with
  | hist xs => exact absurd rfl (hn xs)
  | _ => exact h
def PX.goes : PX → Bool
  | .normal => true
  | _ => false
def PX.code : PX → Option Code
  | .normal => none
  | .exit id => some (.exit id)
  | .goto l => some (.goto l)
  | .ret => some .ret
def roundEnv : List Tmp → List V → Env → Env
  | p :: ps, x :: xs, ρ => roundEnv ps xs ((p, x) :: ρ)
  | _, _, ρ => ρ
theorem roundEnv_ok [Amb] {G : Imm} {φ : Loc} : ∀ (ps : List Tmp) (xs : List V) (vs : List Value) (ρ : Env) (tm : Array Value), repVs G φ xs vs → (∀ p ∈ ps, p < tm.size) → EnvOk G φ ρ ⟨tm, []⟩ →
    EnvOk G φ (roundEnv ps xs ρ) ⟨(ps.zip vs).foldl (fun t (p, v) => t.setIfInBounds p v) tm, []⟩ ∧ ((ps.zip vs).foldl (fun t (p, v) => t.setIfInBounds p v) tm).size = tm.size
  | [], xs, vs, ρ, tm, _, _, he => by simp [roundEnv]; exact he
  | p :: ps, [], vs, ρ, tm, hr, _, he => by
    have : vs = [] := hr
    subst this
    simp [roundEnv]; exact he
  | p :: ps, x :: xs, vs, ρ, tm, hr, hp, he => by
    obtain ⟨u, us, rfl, h1, h2⟩ := hr
    have hpl := hp p List.mem_cons_self
    have := roundEnv_ok ps xs us ((p, x) :: ρ) (tm.setIfInBounds p u) h2 (fun q hq => by simpa using hp q (List.mem_cons_of_mem _ hq)) (fun t y hy => by
      rw [lk_put] at hy
      split at hy
      · rename_i e; subst e
        injection hy with hy; subst hy
        exact ⟨u, by simp [hpl], h1⟩
      · rename_i e
        obtain ⟨v, v1, v2⟩ := he t y hy
        refine ⟨v, ?_, v2⟩
        show (tm.setIfInBounds p u)[t]? = some v
        rw [Array.getElem?_setIfInBounds_ne e]; exact v1)
    refine ⟨?_, ?_⟩
    · simpa [roundEnv] using this.1
    · simpa using this.2

variable [Amb]
theorem Sit.putObj {G : Imm} {w : World} {φ : Loc} {H : Hp} (hs : Sit G w φ H) {D : Nat} {o o' : Obj} (h : w.heap[D]? = some o) (hc : ∀ k, w.cell? ⟨D, k, none⟩ = none) (hn : ¬ ownS φ H D) : Sit G (w.putObj D o') φ H := by
  have hne : ∀ b k v, G b k = some v → b ≠ D := fun b k v hb e => by
    subst e
    have := hs.inv b k v hb
    rw [hc] at this; cases this
  refine ⟨fun b k v hb => ?_, fun i ob hi => (hs.holds i ob hi).keep (Imm.le.refl _) (Loc.le.refl _) (fun _ => rfl) (fun b hb => ⟨putObj_heap w D _ (fun e => hn ⟨i, ob, hi, e ▸ hb⟩), fun _ => rfl⟩), hs.dist, hs.un⟩
  have h6 := hs.inv b k v hb
  unfold World.cell? at h6 ⊢
  rw [putObj_heap w D _ (hne b k v hb)]
  exact h6
theorem cell_loop {w : World} {D : Nat} {r : Loop} (h : w.heap[D]? = some (.loop r)) (k : Nat) : w.cell? ⟨D, k, none⟩ = none := by simp [World.cell?, h]
theorem Goes.putObj {G : Imm} {w : World} {φ : Loc} {H : Hp} {G' : Imm} {w' : World} {φ' : Loc} {H' : Hp} (hg : Goes G w φ H G' w' φ' H') {D : Nat} (o : Obj) (hD : D < w.heap.size) : Goes G (w.putObj D o) φ H G' (w'.putObj D o) φ' H' where
  le := hg.le
  ple := hg.ple
  os := hg.os
  tape := hg.tape
  output := hg.output
  size := by rw [World.putObj_size, World.putObj_size]; exact hg.size
  block := fun b hb hn => by
    rw [World.putObj_size] at hb
    refine ⟨?_, (hg.block b hb hn).2⟩
    by_cases e : b = D
    · subst e
      rw [World.putObj_heap_same hD, World.putObj_heap_same (Nat.lt_of_lt_of_le hD hg.size)]
    · rw [putObj_heap _ _ _ e, putObj_heap _ _ _ e]; exact (hg.block b hb hn).1
  owns := fun b hb => by rw [World.putObj_size]; exact hg.owns b hb
theorem Mk.putObj {base : Nat} {w : World} {φ : Loc} {H : Hp} {D : Nat} (o : Obj) (hD : D < base) : ∀ {ds : List Deferred}, Mk base w φ H ds → Mk base (w.putObj D o) φ H ds
  | [], _ => trivial
  | d :: ds, ⟨⟨h0, D', h1, h2, h3, h4⟩, h5⟩ => ⟨⟨h0, D', h1, h2, (putObj_heap w D _ (by omega)).trans h3, h4⟩, Mk.putObj o hD h5⟩

/-- The caller, while the function that it ranges over runs. -/
structure Wait (G0 : Imm) (w0 : World) (φ0 : Loc) (H0 : Hp) (rec : LoopState → Option Code → Loop) (pe : PX) (H : List Ob) (G : Imm) (W : World) (B : Nat → Prop) (φ : Loc) : Prop where
  le : G0.le G
  ple : φ0.le φ
  holds : ∀ i ob, hp H i = some ob → Holds G W φ i ob
  dist : ∀ i j ob ob' b, i ≠ j → hp H i = some ob → hp H j = some ob' → Owns φ i ob b → Owns φ j ob' b → False
  un : ∀ i, hp H i = none → ∀ n, φ i n = none
  own : ∀ b, ownS φ (hp H) b → B b
  bl : B (w0.heap.size + 1)
  bD : B w0.heap.size
  lt : ∀ b, B b → b < W.heap.size
  frm : ∀ b, B b → ownS φ0 H0 b ∨ w0.heap.size ≤ b
  noD : ¬ ownS φ (hp H) w0.heap.size
  noL : ¬ ownS φ (hp H) (w0.heap.size + 1)
  hl : W.heap[w0.heap.size + 1]? = some (.loop (rec (bif pe.goes then .ready else .done) pe.code))
  hD : W.heap[w0.heap.size]? = some (.deferred (some []))
theorem Wait.stable {G0 : Imm} {w0 : World} {φ0 : Loc} {H0 : Hp} {rec : LoopState → Option Code → Loop} {pe : PX} {H : List Ob} {G G' : Imm} {W W' : World} {B : Nat → Prop} {φ : Loc}
    (h : Wait G0 w0 φ0 H0 rec pe H G W B φ) (hle : G.le G') (hb : ∀ b, B b → W'.heap[b]? = W.heap[b]? ∧ ∀ o, G' b o = G b o) : Wait G0 w0 φ0 H0 rec pe H G' W' B φ where
  le := h.le.trans hle
  ple := h.ple
  holds := fun i ob hi => (h.holds i ob hi).keep hle (Loc.le.refl _) (fun _ => rfl) fun b hbo => hb b (h.own b ⟨i, ob, hi, hbo⟩)
  dist := h.dist
  un := h.un
  own := h.own
  bl := h.bl
  bD := h.bD
  lt := fun b hB => by
    have h1 := h.lt b hB
    have h2 := (hb b hB).1
    rw [Array.getElem?_eq_getElem h1] at h2
    exact (Array.getElem?_eq_some_iff.1 h2).1
  frm := h.frm
  noD := h.noD
  noL := h.noL
  hl := (hb _ h.bl).1.trans h.hl
  hD := (hb _ h.bD).1.trans h.hD
section
variable {P : Program} {tt : TT} {n N : Nat} {ρ : Env} {H : List Ob} {Q : Post} {ps : Array Tmp} {assign body : Code} {fin : List (List V) → PX} {st : List (List V) → List Ob}
theorem roundPost_of {l : Nat} {R : Ending → World → Prop} (pe : PX) {a : Act} {w : World} (h : ∃ v w', (Instr.endRound l pe.code).run P w = .ok v w' ∧ R (.returned v) w') : roundPost P l R pe.to a w := by
  cases pe <;> exact h
/-- What a round must come to. -/
def roundQ (N l : Nat) (fin : List (List V) → PX) (st : List (List V) → List Ob) (xs : List (List V)) : Post := fun pe ρ H => fin xs = pe ∧ Le ⟨N, some l⟩ [] (st xs) ρ H
def noX : Post := fun _ _ _ => False
theorem wait_round {fn : FuncId} {tm : Array Value} {G0 : Imm} {w0 : World} {φ0 : Loc} {H0 : Hp} {rec : LoopState → Option Code → Loop} {G : Imm} {W : World} {B : Nat → Prop} {φ : Loc} {xs : List (List V)} {x : List V} {vs : List Value}
    (hst : ∀ xs, (st xs).length = N) (hps : ∀ p ∈ ps.toList, p < n) (htm : tm.size = n)
    (round : SWp P n ⟨N, some (w0.heap.size + 1)⟩ assign (roundEnv ps.toList x ρ) (st xs) (seqK (fun ρ1 H1 => SWp P n ⟨N, some (w0.heap.size + 1)⟩ body ρ1 H1 (roundQ N (w0.heap.size + 1) fin st (xs ++ [x]))) noX))
    (hlen : x.length = ps.size) (hgo : fin xs = .normal)
    (hw : Wait G0 w0 φ0 H0 rec (fin xs) (st xs) G W B φ) (hinv : Inv G W) (henv : EnvOk G0 φ0 ρ ⟨tm, []⟩) (hv : ∀ φ, repVs G φ x vs)
    (hrec : rec = fun st pe => { state := st, pending := pe, fn, tmps := tm, params := ps, assign, body, defers := w0.heap.size }) :
    ∃ f tmps as bd, (Instr.yield (w0.heap.size + 1) vs.toArray).run P W = .ok (.round (w0.heap.size + 1) f tmps as bd) W ∧ RoundIn Fence.wide 0 P (w0.heap.size + 1) f tmps as bd W fun e w' => ∃ (G' : Imm) (B' : Nat → Prop), e = .returned (.bool (fin (xs ++ [x])).goes) ∧ (∃ φ', Wait G0 w0 φ0 H0 rec (fin (xs ++ [x])) (st (xs ++ [x])) G' w' B' φ') ∧ Inv G' w' ∧ G.le G' ∧
      (w'.os = W.os ∧ w'.tape = W.tape ∧ w'.output = W.output ∧ W.heap.size ≤ w'.heap.size) ∧ (∀ b, B b → B' b) ∧ (∀ b, B' b → B b ∨ W.heap.size ≤ b) ∧ ∀ b, b < W.heap.size → ¬ B b → w'.heap[b]? = W.heap[b]? ∧ ∀ o, G' b o = G b o := by
  have hl0 := hw.hl
  rw [hgo] at hl0
  have hvl := repVs_len (hv φ)
  have hy := run_yield (P := P) (args := vs.toArray) hl0 (by rw [hrec]; simp; omega)
  rw [hrec] at hy
  refine ⟨_, _, _, _, hy, roundIn_of_wpIn trivial ?_⟩
  have hlW := hw.lt _ hw.bl
  have hDW := hw.lt _ hw.bD
  have hsit : Sit G W φ (hp (st xs)) := ⟨hinv, hw.holds, hw.dist, hw.un⟩
  have h0 : ∀ i, N ≤ i → ∀ m, φ i m = none := fun i hi m => hw.un i (List.getElem?_eq_none (by rw [hst]; exact hi)) m
  have henv2 : EnvOk G φ ρ ⟨tm, []⟩ := henv.mono hw.le hw.ple
  obtain ⟨he3, hs3⟩ := roundEnv_ok ps.toList x vs ρ tm (hv φ) (fun p hp => by rw [htm]; exact hps p hp) henv2
  have ea : (ps.zip vs.toArray).foldl (fun tmps (x : Tmp × Value) => match x with | (t, a) => tmps.setIfInBounds t a) tm = (ps.toList.zip vs).foldl (fun t (p, v) => t.setIfInBounds p v) tm := by
    rw [← Array.foldl_toList, Array.toList_zip]
  rw [ea]
  refine round G W φ (hp (st xs)) G W φ _ _ h0 ⟨hsit, he3, hs3.trans htm⟩ ⟨Goes.refl _ _ _ _, trivial⟩ ?_
  intro pe ρ1 H1 G1 w1 φ1 a1 hq hr1 hg1
  cases pe with
  | exit id => exact hq.elim
  | goto l => exact hq.elim
  | ret => exact hq.elim
  | normal =>
    have hl1 := (hg1.go.block _ hlW hw.noL).1.trans hl0
    refine ⟨_, run_beginRound hl1 (by rw [hrec]; rfl), ?_⟩
    have hbusy : ({ rec (bif PX.normal.goes then .ready else .done) PX.normal.code with state := .busy } : Loop) = rec .busy none := by rw [hrec]; rfl
    rw [hbusy]
    refine hq G (W.putObj (w0.heap.size + 1) (.loop (rec .busy none))) φ (hp (st xs)) G1 _ φ1 a1 _ h0 ⟨hr1.sit.putObj hl1 (cell_loop hl1) (fun ho => ?_), hr1.env, hr1.size⟩ ⟨hg1.go.putObj _ hlW, ?_⟩ ?_
    · rcases hg1.go.owns _ ho with h | h
      · exact hw.noL h
      · omega
    · rw [World.putObj_size]; exact hg1.mks.putObj _ hlW
    · intro pe ρ3 H3 G3 w3 φ3 a3 hfl hr3 hg3
      obtain ⟨hfin, hle⟩ := hfl
      obtain ⟨φ4, hr4, hg4⟩ := hr3.less h0 hg3 hle
      have hl3 := (hg4.go.block _ (by rw [World.putObj_size]; exact hlW) hw.noL).1.trans (World.putObj_heap_same hlW)
      have hsz := hg4.go.size
      rw [World.putObj_size] at hsz
      have hnL : ¬ ownS φ4 (hp (st (xs ++ [x]))) (w0.heap.size + 1) := fun ho => by
        rcases hg4.go.owns _ ho with h | h
        · exact hw.noL h
        · rw [World.putObj_size] at h; omega
      have hst4 := hr4.sit.putObj (o' := .loop (rec (if pe.code.isNone then .ready else .done) pe.code)) hl3 (cell_loop hl3) hnL
      have hend := run_endRound (P := P) pe.code hl3
      have hrd : ({ rec .busy none with state := if pe.code.isNone then .ready else .done, pending := pe.code } : Loop) = rec (if pe.code.isNone then .ready else .done) pe.code := by rw [hrec]
      rw [hrd] at hend
      refine roundPost_of pe ⟨_, _, hend, G3, fun b => B b ∨ ownS φ4 (hp (st (xs ++ [x]))) b, ?_, ⟨φ4, ?_⟩, hst4.inv, hg4.go.le, ⟨hg4.go.os, hg4.go.tape, hg4.go.output, ?_⟩, fun b hb => .inl hb, fun b hb => ?_, fun b hb hn => ?_⟩
      · rw [hfin]; cases pe <;> rfl
      · exact {
          le := hw.le.trans hg4.go.le
          ple := hw.ple.trans hg4.go.ple
          holds := hst4.holds
          dist := hst4.dist
          un := hst4.un
          own := fun b hb => .inr hb
          bl := .inl hw.bl
          bD := .inl hw.bD
          lt := fun b hb => by
            rw [World.putObj_size]
            rcases hb with hb | ⟨i, ob, hi, ho⟩
            · exact Nat.lt_of_lt_of_le (hw.lt b hb) hsz
            · exact own_lt (hr4.sit.holds i ob hi) ho
          frm := fun b hb => by
            rcases hb with hb | hb
            · exact hw.frm b hb
            · rcases hg4.go.owns b hb with h | h
              · exact hw.frm b (hw.own b h)
              · rw [World.putObj_size] at h; right; omega
          noD := fun ho => by
            rcases hg4.go.owns _ ho with h | h
            · exact hw.noD h
            · rw [World.putObj_size] at h; omega
          noL := hnL
          hl := by
            rw [World.putObj_heap_same (Nat.lt_of_lt_of_le hlW hsz), hfin]
            cases pe <;> rfl
          hD := by
            rw [putObj_heap _ _ _ (by omega)]
            refine (hg4.go.block _ (by rw [World.putObj_size]; exact hDW) hw.noD).1.trans ?_
            rw [putObj_heap _ _ _ (by omega)]
            exact hw.hD }
      · rw [World.putObj_size]; exact hsz
      · rcases hb with hb | hb
        · exact .inl hb
        · rcases hg4.go.owns b hb with h | h
          · exact .inl (hw.own b h)
          · rw [World.putObj_size] at h; exact .inr h
      · have hne : b ≠ w0.heap.size + 1 := fun e => hn (e ▸ hw.bl)
        have h1 := hg4.go.block b (by rw [World.putObj_size]; exact hb) (fun ho => hn (hw.own b ho))
        rw [putObj_heap _ _ _ hne] at h1 ⊢
        exact h1
theorem pending_of {pe : PX} {F : Fence} {m : Nat} {Qc : Exit → Act → World → Prop} {a : Act} {w : World} (h : Qc pe.to a w) : (match pe.code with | none => Qc .normal a w | some c => c.wpIn F m P Qc a w) := by
  cases pe with
  | normal => exact h
  | exit id => exact wpIn_exit h
  | goto l => exact wpIn_goto h
  | ret => exact wpIn_ret h
theorem alloc_lt (w : World) (o : Obj) {b : Nat} (h : b < w.heap.size) : (w.alloc o).heap[b]? = w.heap[b]? := by
  show (w.heap.push o)[b]? = _
  rw [Array.getElem?_push, if_neg (by omega)]
/-- A range over a function: fin tells how the last round ends, st what the caller's objects are, okA what may be yielded, Z what has been yielded in the end. -/
theorem SWp.range {kk : Nat} {g : Operand} (f : FuncId) (cap : List V) (hg : ev ρ g = some (.fn (.func f) [] cap)) (hN : H.length = N)
    (hps : ∀ p ∈ ps.toList, p < n) (fin : List (List V) → PX) (h0 : fin [] = .normal) (okA : List (List V) → Prop) (hlen : ∀ xs x, okA (xs ++ [x]) → x.length = ps.size)
    (st : List (List V) → List Ob) (hst : ∀ xs, (st xs).length = N) (Z : List (List V) → Prop)
    (round : ∀ l xs x, okA (xs ++ [x]) → fin xs = .normal → SWp P n ⟨N, some l⟩ assign (roundEnv ps.toList x ρ) (st xs) (seqK (fun ρ1 H1 => SWp P n ⟨N, some l⟩ body ρ1 H1 (roundQ N l fin st (xs ++ [x]))) noX))
    (call : lendE H (plains cap) fun ids ys h => st [] = kill H ids ∧ noHist h = true ∧ ∀ A' : Amb, A'.go = (fun xs => (fin xs).goes) → A'.ok = (fun P' xs => P' = P ∧ okA xs) →
      @PCalls A' P f (.yld h.length :: ys) (h ++ [.hist []]) fun _ h' => ∃ xs obs, h' = obs ++ [.hist xs] ∧ obs.length = h.length ∧ Z xs)
    (after : ∀ xs, Z xs → Q (fin xs) ρ (st xs)) : SWp P n ⟨kk, none⟩ (.rangeFunc g ps assign body) ρ H Q := by
  intro G0 w0 φ0 H0 G w φ a Qc hk hr hgm hQ
  refine wpIn_rangeFunc ?_
  intro fn _
  obtain ⟨ids, ys, h, l1, l2, l3, hkill, hno, call⟩ := lendE_out call
  obtain ⟨rec, hrec⟩ : ∃ rec : LoopState → Option Code → Loop, rec = fun st pe => { state := st, pending := pe, fn, tmps := a.tmps, params := ps, assign, body, defers := w.heap.size } := ⟨_, rfl⟩
  obtain ⟨w1, hw1⟩ : ∃ w1, (w.alloc (.deferred (some []))).alloc (.loop (rec .ready none)) = w1 := ⟨_, rfl⟩
  have hsz1 : w1.heap.size = w.heap.size + 2 := by rw [← hw1]; simp
  have hlow : ∀ b, b < w.heap.size → w1.heap[b]? = w.heap[b]? := fun b hb => by
    rw [← hw1, alloc_lt _ _ (by simp; omega), alloc_lt _ _ hb]
  have hl1 : w1.heap[w.heap.size + 1]? = some (.loop (rec .ready none)) := by
    rw [← hw1]; have := World.alloc_heap_new (w.alloc (.deferred (some []))) (.loop (rec .ready none)); rwa [World.size_alloc] at this
  have hD1 : w1.heap[w.heap.size]? = some (.deferred (some [])) := by
    rw [← hw1, alloc_lt _ _ (by simp)]; exact World.alloc_heap_new w _
  have hworld : w1.os = w.os ∧ w1.tape = w.tape ∧ w1.output = w.output := by rw [← hw1]; exact ⟨rfl, rfl, rfl⟩
  have hinv1 : Inv G w1 := fun b o v hb => by
    have h1 := hr.sit.inv b o v hb
    have hlt : b < w.heap.size := by
      rcases Nat.lt_or_ge b w.heap.size with h2 | h2
      · exact h2
      · simp [World.cell?, Array.getElem?_eq_none h2] at h1
    unfold World.cell? at h1 ⊢
    rw [hlow b hlt]; exact h1
  obtain ⟨o1, o2⟩ := obsAt_get l2
  have hls := lent_sit (H := H) hr.sit l3 (fun i _ => rfl) l2
  -- whose block a lent object's is
  have lentOwn : ∀ i ob b, (hp h) i = some ob → Owns (lentLoc φ ids) i ob b → ∃ j ob', j ∈ ids ∧ H[j]? = some ob' ∧ Owns φ j ob' b := fun i ob b hi ho => by
    have hil : i < ids.length := by rw [← o1]; exact lt_of_get hi
    have e1 : ids[i]? = some ids[i] := List.getElem?_eq_getElem hil
    obtain ⟨ob0, ob', g1, g2, g3⟩ := o2 i _ e1
    have hi' : h[i]? = some ob := hi
    rw [hi'] at g3; injection g3 with g3; subst g3
    refine ⟨_, ob0, List.getElem_mem hil, g1, ?_⟩
    rw [← Ob.ren_own (φ2 := lentLoc φ ids) (i := i) (fun m => by unfold lentLoc; rw [e1]) g2]
    exact ho
  have killOwn : ∀ i ob b, hp (st []) i = some ob → Owns φ i ob b → i ∉ ids ∧ H[i]? = some ob := fun i ob b hi ho => by
    rw [hkill] at hi
    have hi' : (kill H ids)[i]? = some ob := hi
    by_cases hm : i ∈ ids
    · rw [(kill_get ids H i).1 hm ob hi'] at ho; simp [Owns, own] at ho
    · rw [(kill_get ids H i).2 hm] at hi'; exact ⟨hm, hi'⟩
  have ownLt : ∀ b, ownS φ (hp H) b → b < w.heap.size := fun b ⟨i, ob, hi, ho⟩ => own_lt (hr.sit.holds i ob hi) ho
  have killS : ∀ b, ownS φ (hp (st [])) b → ownS φ (hp H) b := fun b ⟨i, ob, hi, ho⟩ => ⟨i, ob, (killOwn i ob b hi ho).2, ho⟩
  let B0 : Nat → Prop := fun b => ownS φ (hp (st [])) b ∨ b = w.heap.size + 1 ∨ b = w.heap.size
  have wait0 : Wait G w φ (hp H) rec (fin []) (st []) G w1 B0 φ := {
    le := Imm.le.refl _
    ple := Loc.le.refl _
    holds := fun i ob hi => by
      rw [hkill] at hi
      have hi' : (kill H ids)[i]? = some ob := hi
      by_cases hm : i ∈ ids
      · rw [(kill_get ids H i).1 hm ob hi']; trivial
      · rw [(kill_get ids H i).2 hm] at hi'
        exact (hr.sit.holds i ob hi').keep (Imm.le.refl _) (Loc.le.refl _) (fun _ => rfl) fun b hb => ⟨hlow b (ownLt b ⟨i, ob, hi', hb⟩), fun _ => rfl⟩
    dist := fun i j ob ob' b hij h1 h2 k1 k2 => hr.sit.dist i j ob ob' b hij (killOwn i ob b h1 k1).2 (killOwn j ob' b h2 k2).2 k1 k2
    un := fun i hi m => hr.sit.un i (by
      have hi' : (st [])[i]? = none := hi
      rw [hkill] at hi'
      have := List.getElem?_eq_none_iff.1 hi'
      rw [kill_len] at this
      exact List.getElem?_eq_none this) m
    own := fun b hb => .inl hb
    bl := .inr (.inl rfl)
    bD := .inr (.inr rfl)
    lt := fun b hb => by
      rcases hb with hb | hb | hb
      · have := ownLt b (killS b hb); omega
      · omega
      · omega
    frm := fun b hb => by
      rcases hb with hb | hb | hb
      · exact .inl (killS b hb)
      · right; omega
      · right; omega
    noD := fun ho => by have := ownLt _ (killS _ ho); omega
    noL := fun ho => by have := ownLt _ (killS _ ho); omega
    hl := by rw [h0]; exact hl1
    hD := hD1 }
  let A' : PLift Amb := ⟨{
    l := w.heap.size + 1
    J := fun xs G' W B => ∃ φc, Wait G w φ (hp H) rec (fin xs) (st xs) G' W B φc
    ok := fun P' xs => P' = P ∧ okA xs
    go := fun xs => (fin xs).goes
    lt := fun ⟨φc, hw⟩ => hw.lt
    stable := fun ⟨φc, hw⟩ hle hb => ⟨φc, hw.stable hle hb⟩
    yield := by
      rintro P' xs x G' W B vs ⟨rfl, hok⟩ hgo ⟨φc, hw⟩ hinv hv
      refine wait_round hst hps hr.size (round _ xs x hok ?_) (hlen xs x hok) ?_ hw hinv hr.env hv hrec <;>
      · rcases Nat.eq_zero_or_pos xs.length with h1 | h1
        · rw [List.eq_nil_of_length_eq_zero h1]; exact h0
        · have := hgo xs.length h1 (Nat.le_refl _)
          rw [List.take_length] at this
          revert this
          cases fin xs <;> simp [PX.goes] }⟩
  have hcall := call A'.down rfl rfl
  obtain ⟨⟨fd, f1, f2, f3⟩, hcall⟩ := hcall
  obtain ⟨us, vs, e1, e2, e3⟩ := ev_rep hr.env hg
  have e2 : us = [] := e2
  subst e2
  have hys : repVs G (lentLoc φ ids) ys vs := rens_rep (lent_moves φ ids) _ _ _ l1 (plains_rep _ _ e3)
  have hp0 : Classical.propDecidable = Classical.propDecidable := rfl
  let φ1 : Loc := fun i m => if i = h.length then (match m with | 0 => some (some (w.heap.size + 1, 0), 0) | b + 1 => @ite _ (B0 b) (Classical.propDecidable _) (some (none, 0)) none) else lentLoc φ ids i m
  have φ1ne : ∀ i, i ≠ h.length → ∀ m, φ1 i m = lentLoc φ ids i m := fun i hi m => by simp only [φ1, if_neg hi]
  have φ10 : φ1 h.length 0 = some (some (w.heap.size + 1, 0), 0) := by simp [φ1]
  have φ1B : ∀ b, (φ1 h.length (b + 1)).isSome = true ↔ B0 b := fun b => by
    simp only [φ1, if_pos]
    by_cases hb : B0 b
    · simp [hb]
    · simp [hb]
  have φ1F : (fun b => (φ1 h.length (b + 1)).isSome = true) = B0 := by funext b; exact propext (φ1B b)
  have lle : (lentLoc φ ids).le φ1 := fun i m z hz => by
    by_cases e : i = h.length
    · subst e
      unfold lentLoc at hz
      rw [List.getElem?_eq_none (by omega)] at hz; cases hz
    · rw [φ1ne i e]; exact hz
  have get1 : ∀ i ob, hp (h ++ [.hist []]) i = some ob → (i < h.length ∧ hp h i = some ob) ∨ (i = h.length ∧ ob = .hist []) := fun i ob hi => by
    have hi' : (h ++ [Ob.hist []])[i]? = some ob := hi
    rcases Nat.lt_trichotomy i h.length with h1 | h1 | h1
    · rw [List.getElem?_append_left h1] at hi'; exact .inl ⟨h1, hi'⟩
    · subst h1
      rw [List.getElem?_append_right (Nat.le_refl _)] at hi'
      simp at hi'; exact .inr ⟨rfl, hi'.symm⟩
    · rw [List.getElem?_eq_none (by simp; omega)] at hi'; cases hi'
  have own1 : ∀ i ob b, hp (h ++ [.hist []]) i = some ob → Owns φ1 i ob b → (∃ j ob', i < h.length ∧ j ∈ ids ∧ H[j]? = some ob' ∧ Owns φ j ob' b) ∨ (i = h.length ∧ B0 b) := fun i ob b hi ho => by
    rcases get1 i ob hi with ⟨h1, h2⟩ | ⟨h1, h2⟩
    · rw [own_le (φ1ne i (by omega))] at ho
      obtain ⟨j, ob', j1, j2, j3⟩ := lentOwn i ob b h2 ho
      exact .inl ⟨j, ob', h1, j1, j2, j3⟩
    · subst h1; subst h2
      exact .inr ⟨rfl, (φ1B b).1 ho⟩
  have clash : ∀ j ob' b, j ∈ ids → H[j]? = some ob' → Owns φ j ob' b → B0 b → False := fun j ob' b j1 j2 j3 hb => by
    have hlt := ownLt b ⟨j, ob', j2, j3⟩
    rcases hb with ⟨i, ob, hi, ho⟩ | hb | hb
    · obtain ⟨k1, k2⟩ := killOwn i ob b hi ho
      exact hr.sit.dist i j ob ob' b (fun e => k1 (e ▸ j1)) k2 j2 ho j3
    · omega
    · omega
  have hsit1 : @Sit A'.down G w1 φ1 (hp (h ++ [.hist []])) := by
    refine @Sit.mk A'.down _ _ _ _ hinv1 (fun i ob hi => ?_) (fun i j ob ob' b hij h1 h2 k1 k2 => ?_) (fun i hi m => ?_)
    · rcases get1 i ob hi with ⟨h1, h2⟩ | ⟨h1, h2⟩
      · refine holds_any (A := ‹Amb›) (fun xs e => noHist_get hno i xs (e ▸ h2)) ?_
        exact (hls.holds i ob h2).keep (Imm.le.refl _) lle (φ1ne i (by omega)) fun b hb => ⟨hlow b (own_lt (hls.holds i ob h2) hb), fun _ => rfl⟩
      · subst h1; subst h2
        refine ⟨⟨0, φ10⟩, φ, ?_⟩
        rw [φ1F]; exact wait0
    · rcases own1 i ob b h1 k1 with ⟨j1, ob1, a1, a2, a3, a4⟩ | ⟨a1, a2⟩
      · rcases own1 j ob' b h2 k2 with ⟨j2, ob2, b1, b2, b3, b4⟩ | ⟨b1, b2⟩
        · rcases get1 i ob h1 with ⟨c1, c2⟩ | ⟨c1, c2⟩
          · rcases get1 j ob' h2 with ⟨d1, d2⟩ | ⟨d1, d2⟩
            · rw [own_le (φ1ne i (by omega))] at k1
              rw [own_le (φ1ne j (by omega))] at k2
              exact hls.dist i j ob ob' b hij c2 d2 k1 k2
            · omega
          · omega
        · exact clash j1 ob1 b a2 a3 a4 b2
      · rcases own1 j ob' b h2 k2 with ⟨j2, ob2, b1, b2, b3, b4⟩ | ⟨b1, b2⟩
        · exact clash j2 ob2 b b2 b3 b4 a2
        · omega
    · have hi' : (h ++ [Ob.hist []])[i]? = none := hi
      have := List.getElem?_eq_none_iff.1 hi'
      simp at this
      rw [φ1ne i (by omega)]
      unfold lentLoc
      rw [List.getElem?_eq_none (by omega)]
  refine ⟨w.heap.size + 1, [{ target := .collected w.heap.size, args := #[] }], w1, { target := .fn (.func f) vs.toArray, args := #[.func (.yield (w.heap.size + 1)) #[] #[]] }, w1, f,
    #[.func (.yield (w.heap.size + 1)) #[] #[]] ++ vs.toArray, w1, ?_, ?_, fun _ _ => trivial, ?_, fun hh => by simp [Fr, Fence.wide] at hh, ?_⟩
  · rw [← hw1, hrec]; exact run_enterLoop_outer _ _ _ _ _
  · simp only [resolve, e1]
    simp [go_sem]
  · simp only [Sem.run_bind, invoke, callFunc, run_program, f1, f2, f3, Bool.false_eq_true, if_false, Result.andThen_ok]
    rfl
  · have hargs : #[Value.func (.yield (w.heap.size + 1)) #[] #[]] ++ vs.toArray = (Value.func (.yield (w.heap.size + 1)) #[] #[] :: vs).toArray := by simp
    rw [hargs]
    refine (callsIn_wide (n := 0)).2 ((hcall G w1 φ1 _ hsit1 ⟨_, _, rfl, ⟨_, _, φ10, rfl⟩, repVs_mono (Imm.le.refl _) lle _ _ hys⟩).mono ?_)
    rintro e w' ⟨v, r, h', G', φ', rfl, ⟨xs, obs, rfl, hol, hZ⟩, hlen', hs', hg', _⟩
    obtain ⟨_, φc, W⟩ := @Sit.holds A'.down _ _ _ _ hs' h.length (.hist xs) (by show (obs ++ [Ob.hist xs])[h.length]? = _; rw [List.getElem?_append_right (by omega), hol]; simp)
    have hst3 : Sit G' w' φc (hp (st xs)) := ⟨@Sit.inv A'.down _ _ _ _ hs', W.holds, W.dist, W.un⟩
    have hpen : (rec (bif (fin xs).goes then .ready else .done) (fin xs).code).pending = (fin xs).code := by rw [hrec]
    obtain ⟨o4, hend⟩ : ∃ o4, (Instr.endLoop (w.heap.size + 1)).run P w' = .ok (fin xs).code (w'.putObj (w.heap.size + 1) o4) :=
      ⟨_, (run_endLoop (P := P) W.hl (by rw [hrec]; cases fin xs <;> simp [PX.goes])).trans (by rw [hpen])⟩
    have hszs := hg'.size
    have hgo : Goes G w φ (hp H) G' w' φc (hp (st xs)) := {
      le := W.le
      ple := W.ple
      os := hg'.os.trans hworld.1
      tape := hg'.tape.trans hworld.2.1
      output := hg'.output.trans hworld.2.2
      size := by omega
      block := fun b hb hn => by
        have h1 := hg'.block b (by omega) (fun ⟨i, ob, hi, ho⟩ => by
          rcases own1 i ob b hi ho with ⟨j, ob', _, _, j2, j3⟩ | ⟨_, hB | hB | hB⟩
          · exact hn ⟨j, ob', j2, j3⟩
          · exact hn (killS b hB)
          · omega
          · omega)
        exact ⟨h1.1.trans (hlow b hb), h1.2⟩
      owns := fun b hb => W.frm b (W.own b hb) }
    have hlt' : w.heap.size + 1 < w'.heap.size := by omega
    have hgo4 : Goes G w φ (hp H) G' (w'.putObj (w.heap.size + 1) o4) φc (hp (st xs)) :=
      ⟨hgo.le, hgo.ple, hgo.os, hgo.tape, hgo.output, by rw [World.putObj_size]; exact hgo.size, fun b hb hn => ⟨(putObj_heap _ _ _ (by omega)).trans (hgo.block b hb hn).1, (hgo.block b hb hn).2⟩, hgo.owns⟩
    have hmk := (hgm.mks.goes hgo4)
    refine ⟨_, _, hend, pending_of (hQ (fin xs) ρ (st xs) G' _ φc _ (after xs hZ) ⟨hst3.putObj W.hl (cell_loop W.hl) W.noL, fun t x hx => (hr.env.mono W.le W.ple) t x hx, hr.size⟩ ⟨hgm.go.trans hgo4, ?_⟩)⟩
    refine ⟨⟨fun hin => ?_, w.heap.size, rfl, hgm.go.size, ?_, W.noD⟩, hmk⟩
    · have : ∀ (ds : List Deferred), Mk w0.heap.size w φ (hp H) ds → ({ target := .collected w.heap.size, args := #[] } : Deferred) ∈ ds → False := by
        intro ds
        induction ds with
        | nil => intro _ hm; simp at hm
        | cons d ds ih =>
          rintro ⟨⟨_, D', k1, _, k3, _⟩, k5⟩ hm
          rcases List.mem_cons.1 hm with hm | hm
          · subst hm
            injection k1 with k1
            injection k1 with k1
            have := (Array.getElem?_eq_some_iff.1 k3).1
            omega
          · exact ih k5 hm
      exact this _ hgm.mks hin
    · rw [putObj_heap _ _ _ (by omega)]; exact W.hD
end
end Go.Proofs.Ytlafnhpmhflnaaa.Q
