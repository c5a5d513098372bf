/- Regions whose order is open: what operations apart from one another do, they do in every order. No condition. -/
import Derived.Test.YtlafnhpmhflnaaaQm
set_option linter.unusedVariables false
set_option linter.unusedSectionVars false
set_option linter.unnecessarySimpa false
set_option linter.unusedSimpArgs false
namespace Go.Proofs.Ytlafnhpmhflnaaa.Q
variable [Amb]

/-! ### writes in the text's order, of those that have been -/
section cur
variable {ι α : Type} (init : ι → α) (wr : Nat → ι → Option α)
def cur (D : Nat → Bool) : Nat → ι → α
  | 0, l => init l
  | k + 1, l => match D k, wr k l with
    | true, some v => v
    | _, _ => cur D k l
variable {init wr}
theorem cur_skip {D : Nat → Bool} {k : Nat} {l : ι} (h : D k = true → wr k l = none) : cur init wr D (k + 1) l = cur init wr D k l := by
  simp only [cur]
  cases hD : D k with
  | false => rfl
  | true => rw [h hD]
theorem cur_upto {D : Nat → Bool} {j : Nat} {l : ι} (h : ∀ k, k < j → D k = false → wr k l = none) : cur init wr D j l = cur init wr (fun _ => true) j l := by
  induction j with
  | zero => rfl
  | succ j ih =>
    have ih := ih fun k hk => h k (Nat.lt_succ_of_lt hk)
    simp only [cur]
    cases hw : wr j l with
    | none => cases D j <;> exact ih
    | some v =>
      cases hD : D j with
      | true => rfl
      | false => have := h j (Nat.lt_succ_self _) hD; rw [hw] at this; cases this
theorem cur_from {D : Nat → Bool} {j n : Nat} {l : ι} (hjn : j ≤ n) (h : ∀ k, j ≤ k → k < n → D k = true → wr k l = none) : cur init wr D n l = cur init wr D j l := by
  induction n with
  | zero => have : j = 0 := by omega
            subst this; rfl
  | succ n ih =>
    by_cases hj : j = n + 1
    · subst hj; rfl
    · rw [cur_skip (fun hD => h n (by omega) (Nat.lt_succ_self _) hD)]
      exact ih (by omega) fun k h1 h2 => h k h1 (Nat.lt_succ_of_lt h2)
theorem cur_read {D : Nat → Bool} {j n : Nat} {l : ι} (hjn : j ≤ n) (h1 : ∀ k, k < j → D k = false → wr k l = none) (h2 : ∀ k, j ≤ k → k < n → D k = true → wr k l = none) : cur init wr D n l = cur init wr (fun _ => true) j l :=
  (cur_from hjn h2).trans (cur_upto h1)
def also (D : Nat → Bool) (j : Nat) : Nat → Bool := fun k => if k = j then true else D k
theorem cur_other {D : Nat → Bool} {j n : Nat} {l : ι} (h : wr j l = none) : cur init wr (also D j) n l = cur init wr D n l := by
  induction n with
  | zero => rfl
  | succ n ih =>
    simp only [cur, also, ih]
    by_cases hj : n = j
    · subst hj; rw [h]; simp
    · rw [if_neg hj]
theorem cur_same {D : Nat → Bool} {j n : Nat} {l : ι} {v : α} (h : wr j l = some v) (hjn : j < n) (h2 : ∀ k, j < k → k < n → D k = true → wr k l = none) : cur init wr (also D j) n l = v := by
  rw [cur_from (j := j + 1) hjn (fun k h1 h3 h4 => h2 k h1 h3 (by unfold also at h4; rw [if_neg (by omega)] at h4; exact h4))]
  simp only [cur, also, h, if_true]
end cur

/-! ### who waits for whom -/
def edges (o : Oper) : List Nat := (o.after.toList.filter fun e => Region.binds .any e).map (·.on)
/-- All that an operation waits for, as a number's bits. -/
def edgeMask (acc : List Nat) : List Nat → Nat
  | [] => 0
  | i :: r => Nat.lor (Nat.lor (2 ^ i) (acc.getD i 0)) (edgeMask acc r)
def masksGo (acc : List Nat) : List Oper → List Nat
  | [] => acc
  | o :: r => masksGo (acc ++ [edgeMask acc (edges o)]) r
def masks (ops : List Oper) : List Nat := masksGo [] ops
def waits (ops : List Oper) (j i : Nat) : Bool := Nat.testBit ((masks ops).getD j 0) i
def reads (ops : List Oper) (o : Oper) : List Nat :=
  (o.op.operands.toList.filterMap fun | .tmp t => some t | _ => none) ++ (match o.guard with | some (g, _) => (match ops[g]? with | some p => p.dst.toList | none => []) | none => [])
def disjB (a b : List Nat) : Bool := a.all fun i => !memB i b
/-- The slots of operations apart are apart; who waits, waits for one ahead. -/
def slotsB (ops : List Oper) : Bool :=
  let ms := masks ops
  (List.range ops.length).all fun j => match ops[j]? with
    | some o => (edges o).all (fun i => Nat.blt i j) && (List.range j).all fun i => match ops[i]? with
      | some p => (disjB p.dst.toList (o.dst.toList ++ reads ops o) && disjB o.dst.toList (reads ops p)) || Nat.testBit (ms.getD j 0) i
      | none => true
    | none => true
theorem disjB_spec {a b : List Nat} (h : disjB a b = true) : ∀ i, i ∈ a → i ∈ b → False := by
  intro i h1 h2
  have := List.all_eq_true.1 h i h1
  rw [memB_iff.2 h2] at this; cases this
theorem edgeMask_bit {acc : List Nat} {i : Nat} : ∀ {es : List Nat}, Nat.testBit (edgeMask acc es) i = true → ∃ k ∈ es, i = k ∨ Nat.testBit (acc.getD k 0) i = true
  | [], h => by simp [edgeMask] at h
  | e :: r, h => by
    have h1 : Nat.testBit ((2 ^ e ||| acc.getD e 0) ||| edgeMask acc r) i = true := h
    rw [Nat.testBit_or, Nat.testBit_or, Bool.or_eq_true, Bool.or_eq_true] at h1
    rcases h1 with (h1 | h1) | h1
    · refine ⟨e, List.mem_cons_self, .inl ?_⟩
      rw [Nat.testBit_two_pow] at h1
      exact (of_decide_eq_true h1).symm
    · exact ⟨e, List.mem_cons_self, .inr h1⟩
    · obtain ⟨k, hk, h2⟩ := edgeMask_bit h1
      exact ⟨k, List.mem_cons_of_mem _ hk, h2⟩
theorem masksGo_get : ∀ (l : List Oper) (acc : List Nat), (∀ i, i < acc.length → (masksGo acc l).getD i 0 = acc.getD i 0) ∧ ∀ m o, l[m]? = some o → ∃ acc', (∀ i, Nat.testBit (acc'.getD i 0) = Nat.testBit (acc'.getD i 0)) ∧ (∀ i, i < acc'.length → acc'.getD i 0 = (masksGo acc l).getD i 0) ∧ (∀ i, acc'.length ≤ i → acc'.getD i 0 = 0) ∧ (masksGo acc l).getD (acc.length + m) 0 = edgeMask acc' (edges o)
  | [], acc => ⟨fun i _ => rfl, by simp⟩
  | o :: r, acc => by
    obtain ⟨h1, h2⟩ := masksGo_get r (acc ++ [edgeMask acc (edges o)])
    have ext : ∀ i, i < acc.length → (acc ++ [edgeMask acc (edges o)]).getD i 0 = acc.getD i 0 := by
      intro i hi
      simp only [List.getD_eq_getElem?_getD]
      rw [List.getElem?_append_left hi]
    have low : ∀ i, i < acc.length → (masksGo acc (o :: r)).getD i 0 = acc.getD i 0 := by
      intro i hi
      show (masksGo (acc ++ [edgeMask acc (edges o)]) r).getD i 0 = _
      rw [h1 i (by simp; omega), ext i hi]
    refine ⟨low, fun m o' hm => ?_⟩
    cases m with
    | zero =>
      simp at hm; subst hm
      refine ⟨acc, fun _ => rfl, fun i hi => (low i hi).symm, fun i hi => by simp [List.getD_eq_getElem?_getD, List.getElem?_eq_none hi], ?_⟩
      show (masksGo (acc ++ [edgeMask acc (edges o)]) r).getD _ 0 = _
      rw [h1 _ (by simp)]
      simp [List.getD_eq_getElem?_getD]
    | succ m =>
      obtain ⟨acc', a1, a2, a3, a4⟩ := h2 m o' (by simpa using hm)
      refine ⟨acc', a1, a2, a3, ?_⟩
      rw [← a4]
      show (masksGo (acc ++ [edgeMask acc (edges o)]) r).getD _ 0 = _
      congr 1
      simp; omega
theorem masks_get {ops : List Oper} {j : Nat} {o : Oper} (h : ops[j]? = some o) : ∃ acc, (∀ i, acc.getD i 0 = (masks ops).getD i 0 ∨ acc.getD i 0 = 0) ∧ (masks ops).getD j 0 = edgeMask acc (edges o) := by
  obtain ⟨acc', _, a2, a3, a4⟩ := (masksGo_get ops []).2 j o h
  refine ⟨acc', fun i => ?_, by simpa [masks] using a4⟩
  rcases Nat.lt_or_ge i acc'.length with h1 | h1
  · exact .inl (a2 i h1)
  · exact .inr (a3 i h1)
theorem anc_closed {ops : List Oper} {D : Nat → Bool} (hD : ∀ j o, ops[j]? = some o → D j = true → ∀ i ∈ edges o, D i = true) (hB : ∀ j o, ops[j]? = some o → ∀ i ∈ edges o, i < j) : ∀ (j : Nat) (o : Oper), ops[j]? = some o → (∀ i ∈ edges o, D i = true) → ∀ i, waits ops j i = true → D i = true := by
  intro j
  induction j using Nat.strongRecOn with
  | _ j ih =>
    intro o ho he i hi
    obtain ⟨acc, a1, a2⟩ := masks_get ho
    unfold waits at hi
    rw [a2] at hi
    obtain ⟨k, hk, h⟩ := edgeMask_bit hi
    rcases h with rfl | h
    · exact he _ hk
    · have hkj := hB j o ho k hk
      have hok : ops[k]? = some (ops[k]'(by have := (List.getElem?_eq_some_iff.1 ho).1; omega)) := List.getElem?_eq_getElem _
      rcases a1 k with h1 | h1
      · rw [h1] at h
        exact ih k hkj _ hok (hD k _ hok (he k hk)) i h
      · rw [h1] at h; simp at h
end Go.Proofs.Ytlafnhpmhflnaaa.Q
