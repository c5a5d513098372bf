/- Trees: whether an expression has its shape. No condition. -/
import Derived.Test.YtlafnhpmhflnaaaQzq
set_option linter.unusedVariables false
set_option linter.unusedSectionVars false
set_option linter.unnecessarySimpa false
set_option linter.unusedSimpArgs false
set_option maxRecDepth 100000
set_option maxHeartbeats 4000000
namespace Go.Proofs.Ytlafnhpmhflnaaa.Q
open Go.RowKit
def Ex.cells (x : Ex) : List V := [iv x.op, sv' x.mon, sv' x.name, iv x.n, .d (.sl (x.kids.map Ex.e)), iv x.pl]
section
variable [Amb]
theorem all1_c (x : Ex) (hB : x.pre.length < 1073741824) (hok : ∀ zs y, y ∈ x.pre → Amb.ok Try.prog (zs ++ [[y.v]])) :
    PFun Try.prog 85 [.yld 1, .ptr 0 0] [.box x.cells, .hist []] (.tup []) [.box x.cells, .hist (runY [] x.pre).2] := by
  refine fn_sem pok 8 2 Try.func85 (by kernel_rfl) rfl rfl rfl rfl ?_
  refine SWp.go pok (by kernel_rfl) ?_
  refine PFun.call (walk_c _ x [] (Nat.le_refl _) hB (fun m h0 hm => by simp at hm; omega) hok) ?_
  exact ⟨rfl, rfl⟩
theorem all_c (x : Ex) : PFun Try.prog 67 [x.v] [] (.fn (.func 85) [] [.ptr 0 0]) [.box x.cells] := by
  refine fn_sem pok 4 0 Try.func67 (by kernel_rfl) rfl rfl rfl rfl ?_
  refine SWp.go pok (by kernel_rfl) ?_
  exact ⟨rfl, rfl⟩
end
/-! ### ranges over all parts -/
theorem runY_spec [Amb] (p : Ex → Bool) : ∀ (l : List Ex) (xs : List (List V)), (∀ zs y, y ∈ l → Amb.go (zs ++ [[y.v]]) = p y) →
    (l.all p = true → runY xs l = (true, xs ++ l.map fun y => [y.v])) ∧ (l.all p = false → ∃ zs y, y ∈ l ∧ p y = false ∧ runY xs l = (false, zs ++ [[y.v]]))
  | [], xs, _ => ⟨fun _ => by simp [runY], fun h => by simp at h⟩
  | y :: l, xs, hp => by
    have hg := hp xs y List.mem_cons_self
    have ih := runY_spec p l (xs ++ [[y.v]]) (fun zs z hz => hp zs z (List.mem_cons_of_mem _ hz))
    cases hy : p y with
    | true =>
      rw [hy] at hg
      rw [runY_yes hg]
      refine ⟨fun h => ?_, fun h => ?_⟩
      · rw [ih.1 (by simpa [hy] using h)]; simp
      · obtain ⟨zs, z, h1, h2⟩ := ih.2 (by simpa [hy] using h)
        exact ⟨zs, z, List.mem_cons_of_mem _ h1, h2⟩
    | false =>
      rw [hy] at hg
      rw [runY_no (by rw [hg]; simp)]
      exact ⟨fun h => by simp [hy] at h, fun _ => ⟨xs, y, List.mem_cons_self, hy, rfl⟩⟩
/-- The last that was handed on is not as it must be. -/
def BadLast (p : Ex → Bool) (xs : List (List V)) : Prop := ∃ zs y, xs = zs ++ [[Ex.v y]] ∧ p y = false
noncomputable def lastOr {α : Type} (p : Ex → Bool) (good bad : α) (xs : List (List V)) : α := @ite _ (BadLast p xs) (Classical.propDecidable _) bad good
theorem lastOr_snoc {α : Type} {p : Ex → Bool} (hp : ∀ y z : Ex, y.v = z.v → p y = p z) (good bad : α) (zs : List (List V)) (y : Ex) : lastOr p good bad (zs ++ [[y.v]]) = bif p y then good else bad := by
  unfold lastOr
  cases hy : p y with
  | true =>
    rw [if_neg]; rfl
    rintro ⟨zs', y', e, h⟩
    have e2 := (List.append_inj' e rfl).2
    injection e2 with e2; injection e2 with e2
    rw [hp y y' e2] at hy
    rw [hy] at h; cases h
  | false =>
    rw [if_pos ⟨zs, y, rfl, hy⟩]; rfl
theorem lastOr_nil {α : Type} {p : Ex → Bool} (good bad : α) : lastOr p good bad [] = good := by
  unfold lastOr
  rw [if_neg]
  rintro ⟨zs, y, e, _⟩
  have := congrArg List.length e
  simp at this
theorem lastOr_map {α β : Type} (f : α → β) {p : Ex → Bool} (good bad : α) (xs : List (List V)) : f (lastOr p good bad xs) = lastOr p (f good) (f bad) xs := by
  unfold lastOr
  by_cases h : BadLast p xs
  · rw [if_pos h, if_pos h]
  · rw [if_neg h, if_neg h]
theorem lastOr_cases {α : Type} (p : Ex → Bool) (good bad : α) (xs : List (List V)) : (lastOr p good bad xs = good ∧ ∀ {β : Type} (a b : β), lastOr p a b xs = a) ∨ (lastOr p good bad xs = bad ∧ ∀ {β : Type} (a b : β), lastOr p a b xs = b) := by
  by_cases h : BadLast p xs
  · exact .inr ⟨by unfold lastOr; rw [if_pos h], fun a b => by unfold lastOr; rw [if_pos h]⟩
  · exact .inl ⟨by unfold lastOr; rw [if_neg h], fun a b => by unfold lastOr; rw [if_neg h]⟩
/-- An expression that fits into memory. -/
def Ex.fits (x : Ex) : Prop := x.pre.length < 1073741824 ∧ ∀ y ∈ x.pre, y.kids.length < 1073741824 ∧ y.mon.length < 1073741824 ∧ y.name.length < 1073741824
theorem isPartS_v (y z : Ex) (h : y.v = z.v) : isPartS y = isPartS z := by
  unfold Ex.v at h
  simp only [V.agg.injEq, List.cons.injEq, V.d.injEq, D.int.injEq, D.str.injEq, D.sl.injEq, true_and, and_true] at h
  obtain ⟨h1, h2, h3, h4, h5, h6⟩ := h
  have h5 := congrArg List.length h5
  simp at h5
  unfold isPartS
  rw [h1, h2, h3, h4, h5]
/-- Whether an expression has its shape: 0; else 20. -/
def checkS (x : Ex) : Int := bif x.pre.all isPartS then 0 else 20
theorem checkExpr_c [Amb] (x : Ex) (hx : x.fits) : PFun Try.prog 54 [x.v] [] (iv (checkS x)) [] := by
  refine fn_sem pok 10 0 Try.func54 (by kernel_rfl) rfl rfl rfl rfl ?_
  refine SWp.go pok (by kernel_rfl) ?_
  refine PFun.call (all_c x) ?_
  refine SWp.range 85 [.ptr 2 0] rfl rfl (by decide) (lastOr isPartS .normal .ret) (lastOr_nil _ _) (fun xs => ∃ zs y, y ∈ x.pre ∧ xs = zs ++ [[y.v]])
    (fun xs a ⟨zs, y, _, e⟩ => by have := (List.append_inj' e rfl).2; injection this with this; rw [this]; rfl)
    (lastOr isPartS [.box x.cells, .box [iv 0], .dead] [.box x.cells, .box [iv 20], .dead]) (fun xs => by rw [lastOr_map List.length]; rcases lastOr_cases isPartS 3 3 xs with h | h <;> exact h.1)
    (fun xs => lastOr isPartS 0 20 xs = checkS x) (fun l xs a hok hfin => ?_) ?_ (fun xs hz => ?_)
  · obtain ⟨zs, y, hy, e⟩ := hok
    obtain ⟨e1, e2⟩ := List.append_inj' e rfl
    injection e2 with e2
    subst e1; subst e2
    have hf := hx.2 y hy
    have hst : ∀ {β : Type} (a b : β), lastOr isPartS a b xs = a := by
      rcases lastOr_cases isPartS PX.normal PX.ret xs with h | h
      · exact h.2
      · rw [h.1] at hfin; cases hfin
    unfold roundQ
    rw [hst, lastOr_snoc isPartS_v, lastOr_snoc isPartS_v]
    refine SWp.go pok (by kernel_rfl) ?_
    refine SWp.go pok (by kernel_rfl) ?_
    refine PFun.call (isPart_c y hf.1 hf.2.1 hf.2.2) ?_
    refine brP_split (fun h => ?_) (fun h => ?_)
    · have h : isPartS y = false := by simpa using h
      exact ⟨by rw [h]; rfl, .inr ⟨[0, 1, 2], ⟨rfl, rfl⟩, by rw [h]; rfl, trivial⟩⟩
    · have h : isPartS y = true := by simpa using h
      exact ⟨by rw [h]; rfl, .inr ⟨[0, 1, 2], ⟨rfl, rfl⟩, by rw [h]; rfl, trivial⟩⟩
  · refine ⟨lastOr_nil _ _, rfl, fun A' hgo hok => ?_⟩
    refine PCalls.mono (@all1_c A' x hx.1 (fun zs y hy => by rw [hok]; exact ⟨rfl, zs, y, hy, rfl⟩)) ?_
    rintro r h' ⟨_, rfl⟩
    refine ⟨_, [.box x.cells], rfl, rfl, ?_⟩
    have sp := @runY_spec A' isPartS x.pre [] (fun zs y hy => by
      rw [hgo]
      show (lastOr isPartS PX.normal PX.ret (zs ++ [[y.v]])).goes = _
      rw [lastOr_snoc isPartS_v]; cases isPartS y <;> rfl)
    unfold checkS
    cases hall : x.pre.all isPartS with
    | true =>
      rw [sp.1 hall]
      show lastOr isPartS 0 20 ([] ++ x.pre.map fun y => [y.v]) = 0
      rcases List.eq_nil_or_concat x.pre with h | ⟨l, z, h⟩
      · rw [h]; exact lastOr_nil _ _
      · rw [h, List.concat_eq_append] at hall ⊢
        rw [List.map_append, ← List.append_assoc]
        rw [List.map_cons, List.map_nil, lastOr_snoc isPartS_v]
        have : isPartS z = true := by rw [List.all_append] at hall; simp at hall; exact hall.2
        rw [this]; rfl
    | false =>
      obtain ⟨zs, z, _, h2, h3⟩ := sp.2 hall
      rw [h3]
      show lastOr isPartS 0 20 (zs ++ [[z.v]]) = 20
      rw [lastOr_snoc isPartS_v, h2]; rfl
  · rcases lastOr_cases isPartS PX.normal PX.ret xs with h | h
    · rw [h.1, h.2]
      rw [h.2] at hz
      exact fin1 (dint hz)
    · rw [h.1, h.2]
      rw [h.2] at hz
      exact fin1 (dint hz)
end Go.Proofs.Ytlafnhpmhflnaaa.Q
