/- Sums of variables: the reference's sum of two, walked. No condition. -/
import Derived.Test.YtlafnhpmhflnaaaQzf
set_option linter.unusedVariables false
set_option linter.unusedSectionVars false
set_option linter.unnecessarySimpa false
set_option linter.unusedSimpArgs false
set_option maxRecDepth 100000
set_option maxHeartbeats 4000000
namespace Go.Proofs.Ytlafnhpmhflnaaa.Q
open Go.RowKit
variable [Amb]
/-- The reference's sum of the terms. -/
def sumT (x y : List Tm) : List Int → Option (List Tm)
  | [] => some []
  | v :: r => if (addS (ofF v x) (ofF v y)).2 = true then (sumT x y r).map (con ⟨v, (addS (ofF v x) (ofF v y)).1⟩) else none
theorem sumT_at (x y : List Tm) {l : List Int} {k : Nat} (h : k < l.length) : sumT x y (l.drop k) = if (addS (ofF l[k] x) (ofF l[k] y)).2 = true then (sumT x y (l.drop (k + 1))).map (con ⟨l[k], (addS (ofF l[k] x) (ofF l[k] y)).1⟩) else none := by
  rw [List.drop_eq_getElem_cons h]; rfl
theorem ofF_r {v : Int} {l : List Tm} (h : ∀ t ∈ l, t.ok) : R64 (ofF v l) := by
  induction l with
  | nil => unfold ofF R64; omega
  | cons t r ih =>
    unfold ofF
    split
    · exact (h t (by simp)).2
    · exact ih fun q hq => h q (by simp [hq])
theorem varsF_len : ∀ (n : Nat) (x y : List Tm), x.length + y.length ≤ n → (varsF x y).length ≤ x.length + y.length
  | n, [], [], _ => by simp [varsF]
  | 0, t :: x, _, h => by simp at h
  | 0, [], u :: y, h => by simp at h
  | n + 1, t :: x, [], h => by rw [varsF]; have := varsF_len n x [] (by simp at h ⊢; omega); simp at this ⊢; omega
  | n + 1, [], u :: y, h => by rw [varsF]; have := varsF_len n [] y (by simp at h ⊢; omega); simp at this ⊢; omega
  | n + 1, t :: x, u :: y, h => by
    rw [varsF]
    split
    · have := varsF_len n x y (by simp at h ⊢; omega); simp at this ⊢; omega
    · split
      · have := varsF_len n x (u :: y) (by simp at h ⊢; omega); simp at this ⊢; omega
      · have := varsF_len n (t :: x) y (by simp at h ⊢; omega); simp at this ⊢; omega
def refAddL (a b : Ln) : Ln × Bool :=
  if isB a.l = true ∧ isB b.l = true ∧ (addS a.k b.k).2 = true then match sumT a.l b.l (varsF a.l b.l) with | some l => if l.length ≤ 40 then (⟨(addS a.k b.k).1, l⟩, true) else noLn | none => noLn else noLn
theorem radd_no1 {x y : Ln} (h : ¬ isB x.l = true) : refAddL x y = noLn := if_neg fun h' => h h'.1
theorem radd_no2 {x y : Ln} (h : ¬ isB y.l = true) : refAddL x y = noLn := if_neg fun h' => h h'.2.1
theorem radd_no3 {x y : Ln} (h : ¬ (addS x.k y.k).2 = true) : refAddL x y = noLn := if_neg fun h' => h h'.2.2
theorem radd_none {x y : Ln} (h : sumT x.l y.l (varsF x.l y.l) = none) : refAddL x y = noLn := by unfold refAddL; split <;> simp [h]
theorem radd_yes {x y : Ln} {l : List Tm} (h1 : isB x.l = true) (h2 : isB y.l = true) (h3 : (addS x.k y.k).2 = true) (h : sumT x.l y.l (varsF x.l y.l) = some l) (hl : l.length ≤ 40) : refAddL x y = (⟨(addS x.k y.k).1, l⟩, true) := by unfold refAddL; rw [if_pos ⟨h1, h2, h3⟩, h]; exact if_pos hl
theorem radd_no4 {x y : Ln} {l : List Tm} (h1 : isB x.l = true) (h2 : isB y.l = true) (h3 : (addS x.k y.k).2 = true) (h : sumT x.l y.l (varsF x.l y.l) = some l) (hl : ¬ l.length ≤ 40) : refAddL x y = noLn := by unfold refAddL; rw [if_pos ⟨h1, h2, h3⟩, h]; exact if_neg hl
theorem refAddL_c (x y : Ln) (hx : x.ok) (hy : y.ok) : PFun Try.prog 23 [x.v, y.v] [] (lb (refAddL x y)) [] := by
  refine fn_sem pok 82 0 Try.func23 (by kernel_rfl) rfl rfl rfl rfl ?_
  refine SWp.go pok (by kernel_rfl) ?_
  refine PFun.call (refIs_c x) ?_
  refine brP_split (fun h => ?_) (fun h => ?_)
  · exact fin1 (lb_no (radd_no1 (by simpa using h)))
  have h1 : isB x.l = true := by simpa using h
  have l1 := isB_len h1
  refine PFun.call (refIs_c y) ?_
  refine brP_split (fun h => ?_) (fun h => ?_)
  · exact fin1 (lb_no (radd_no2 (by simpa using h)))
  have h2 : isB y.l = true := by simpa using h
  have l2 := isB_len h2
  refine PFun.call (refAdd_c x.k y.k hx.1 hy.1) ?_
  refine brP_split (fun h => ?_) (fun h => ?_)
  · exact fin1 (lb_no (radd_no3 (by simpa using h)))
  have h3 : (addS x.k y.k).2 = true := by simpa using h
  have lv := varsF_len _ x.l y.l (Nat.le_refl _)
  have cv := vars_c x y l1 l2
  obtain ⟨vs, hvs⟩ : ∃ vs, varsF x.l y.l = vs := ⟨_, rfl⟩
  rw [hvs] at lv cv
  refine PFun.call cv ?_
  refine SWp.tipBox 3 1 2 rfl rfl ?_
  refine SWp.loop (fun p : Nat × List (List D) => ∃ acc : List Tm, p.2 = acc.map Tm.e ∧ p.1 ≤ vs.length ∧ acc.length ≤ p.1 ∧ (sumT x.l y.l (vs.drop p.1)).map (acc ++ ·) = sumT x.l y.l vs)
    (fun p => ([(2, .ptr 0 0), (3, .ptr 1 0), (4, .ptr 2 0), (8, .ptr 3 0), (9, ils vs), (10, iv p.1)], [.box [.d (.int .i64 x.k), .d (.sl (x.l.map Tm.e))], .box [.d (.int .i64 y.k), .d (.sl (y.l.map Tm.e))], .box [iv 0, .fsl []], .box [iv (addS x.k y.k).1, .gsl p.2 4], .tip 2 p.2.length]))
    (fun p => vs.length - p.1) (0, []) ⟨[], rfl, Nat.zero_le _, Nat.le_refl _, by show (sumT x.l y.l vs).map _ = _; cases sumT x.l y.l vs <;> simp⟩ (Le.same ⟨rfl, rfl, rfl, rfl, rfl, rfl, trivial⟩) (fun p hp => ?_)
  obtain ⟨j, rows⟩ := p
  obtain ⟨acc, hr, hj, hac, hs⟩ := hp
  simp only at hr hj hac hs
  subst hr
  refine SWp.go pok (by kernel_rfl) ?_
  refine brP_split (fun h => ?_) (fun h => ?_)
  · have hlt : j < vs.length := by simpa using h
    have hat := sumT_at x.l y.l hlt
    refine PIdx.map (get_at hlt) ?_
    refine ⟨_, _, of_c x vs[j] (by omega), ?_⟩
    refine PIdx.map (get_at hlt) ?_
    refine ⟨_, _, of_c y vs[j] (by omega), ?_⟩
    refine ⟨_, _, refAdd_c _ _ (ofF_r hx.2) (ofF_r hy.2), ?_⟩
    refine brP_split (fun h4 => ?_) (fun h4 => ?_)
    · exact fin1 (lb_no (radd_none (by rw [hvs, ← hs, hat, if_neg (by simpa using h4)]; rfl)))
    · rw [if_pos (by simpa using h4)] at hat
      refine brP_split (fun h5 => ?_) (fun h5 => ?_)
      · have h5' : ¬ (addS (ofF vs[j] x.l) (ofF vs[j] y.l)).1 = 0 := by simpa using h5
        refine PIdx.map (get_at hlt) ?_
        refine ⟨⟨rfl, RL_map acc, RL_one rfl, by simp; omega⟩, ?_⟩
        refine ⟨(j + 1, acc.map Tm.e ++ [Tm.e ⟨vs[j], (addS (ofF vs[j] x.l) (ofF vs[j] y.l)).1⟩]), ⟨acc ++ [⟨vs[j], (addS (ofF vs[j] x.l) (ofF vs[j] y.l)).1⟩], by simp, hlt, by simp; omega, ?_⟩, by show vs.length - (j + 1) < vs.length - j; omega, .inr ⟨[0, 1, 2, 3, 4], ⟨rfl, rfl⟩, rfl, rfl, rfl, rfl, rfl, rfl, sint (wrap_nat j (by omega)), trivial⟩⟩
        rw [← hs, hat]; exact (con_yes h5').symm
      · have h5' : (addS (ofF vs[j] x.l) (ofF vs[j] y.l)).1 = 0 := by simpa using h5
        refine ⟨(j + 1, acc.map Tm.e), ⟨acc, rfl, hlt, by show acc.length ≤ j + 1; omega, ?_⟩, by show vs.length - (j + 1) < vs.length - j; omega, .inr ⟨[0, 1, 2, 3, 4], ⟨rfl, rfl⟩, rfl, rfl, rfl, rfl, rfl, rfl, sint (wrap_nat j (by omega)), trivial⟩⟩
        rw [← hs, hat]; exact (con_no h5').symm
  · have hk : j = vs.length := by simp at h; omega
    have e0 : sumT x.l y.l (varsF x.l y.l) = some acc := by rw [hvs, ← hs, drop_nil hk]; simp [sumT]
    refine brP_split (fun h => ?_) (fun h => ?_)
    · exact fin1 (lb_no (radd_no4 h1 h2 h3 e0 (by simp at h; omega)))
    · exact fin1 (by rw [radd_yes h1 h2 h3 e0 (by simp at h; omega)]; rfl)
end Go.Proofs.Ytlafnhpmhflnaaa.Q
