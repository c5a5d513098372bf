/- Texts tell expressions apart; the laws of expressions parsed back. No condition. -/
import Derived.Test.YtmflfcbebeikcaaDoorMQ
import Derived.Test.YtmflfcbebeikcaaDoorMJ
import Derived.Test.YtmflfcbebeikcaaDoorME
import Derived.Test.YtmflfcbebeikcaaDoorMO
set_option linter.unusedVariables false
set_option linter.unusedSectionVars false
set_option linter.unnecessarySimpa false
set_option linter.unusedSimpArgs false
set_option maxRecDepth 100000
set_option maxHeartbeats 4000000
namespace Go.Proofs.YtmflfcbebeikcaaDoor.Q
open Go.RowKit
variable [Amb] [Pow]
theorem small_fits {e : Ex} {z n : Int} (hn : n ≤ 1000) (hX : (e.pre.length : Int) = n - z ∧ ∀ y ∈ e.pre, y.kids.length ≤ 1000 ∧ y.mon.length ≤ 1000 ∧ y.name.length ≤ 1000) (h0 : 0 ≤ z) : e.fits ∧ e.Fit := by
  have hf : e.fits := ⟨by omega, fun y hy => by
    have := hX.2 y hy
    exact ⟨by omega, by omega, by omega⟩⟩
  exact ⟨hf, fits_Fit _ e (Nat.le_refl _) fun y hy => (hf.2 y hy).1⟩
theorem small_pr {e : Ex} {z n : Int} (hn : n ≤ 400) (hX : (e.pre.length : Int) = n - z ∧ ∀ y ∈ e.pre, y.kids.length ≤ 1000 ∧ y.mon.length ≤ 1000 ∧ y.name.length ≤ 1000) (h0 : 0 ≤ z) (he : PrOk e) : (e.pr 1).length ≤ 14429 := by
  have := pr_len' _ e (Nat.le_refl _) he 1 (by decide)
  omega
theorem printExprApart_t (a b : Ex) (ha : ∀ y ∈ a.pre, R64 y.n) (hb : ∀ y ∈ b.pre, R64 y.n) : PFun Tryd.prog 5 [a.v, b.v] [] (.d (.bool true)) [] := by
  refine fn_sem pok 45 0 Tryd.func5 (by kernel_rfl) rfl rfl rfl rfl ?_
  refine SWp.go pok (by kernel_rfl) ?_
  refine PCalls.mono (restExpr_c _ a 400 (Nat.le_refl _) (by decide) (by decide)) ?_
  rintro r h' ⟨z, rfl, rfl, z0, z1, zX⟩
  refine brP_split (fun h => ?_) (fun h => ?_)
  · exact PFun.call live03_c (fin1 rfl)
  have h : 0 ≤ z := by simp at h; omega
  refine PCalls.mono (restExpr_c _ b 400 (Nat.le_refl _) (by decide) (by decide)) ?_
  rintro r h' ⟨y, rfl, rfl, y0, y1, yX⟩
  refine brP_split (fun k => ?_) (fun k => ?_)
  · exact PFun.call live03_c (fin1 rfl)
  have k : 0 ≤ y := by simp at k; omega
  have fa := small_fits (by decide) (zX h) h
  have fb := small_fits (by decide) (yX k) k
  have la := fun he => small_pr (by decide) (zX h) h he
  have lb := fun he => small_pr (by decide) (yX k) k he
  have oa := exprP_ok ha
  have ob := exprP_ok hb
  have na := exprP_nn a
  have nb := exprP_nn b
  have ca := printExpr_c a fa.1 ha fun he => by have := la he; omega
  have cb := printExpr_c b fb.1 hb fun he => by have := lb he; omega
  refine PFun.call ca ?_
  refine PFun.call cb ?_
  refine PFun.call (num03_c _) ?_
  refine PFun.call (num03_c _) ?_
  have hw : IntKind.i64.wrap ((exprP a).2 + (exprP b).2) = (exprP a).2 + (exprP b).2 := wrap_in (by unfold R64; omega)
  refine brP_split (fun h2 => ?_) (fun h2 => ?_)
  · exact PFun.call live03_c (fin1 rfl)
  have h2 : (exprP a).2 = 0 ∧ (exprP b).2 = 0 := by
    rw [hw] at h2
    simp at h2
    omega
  obtain ⟨p1, p2, p3, p4, _⟩ := oa h2.1
  obtain ⟨q1, q2, q3, q4, _⟩ := ob h2.2
  have key := apart_expr p1 q1 p2 q2 p3 q3
  rw [← p4, ← q4] at key
  have cs := sameExpr_c fa.2 fb.2
  rw [← key] at cs
  refine brP_split (fun h3 => ?_) (fun h3 => ?_)
  · rw [h3] at cs
    first | refine PFun.call cs ?_ | refine ⟨_, _, cs, ?_⟩
    first | refine PFun.call live03_c ?_ | refine ⟨_, _, live03_c, ?_⟩
    exact fin1 rfl
  · rw [h3] at cs
    first | refine PFun.call cs ?_ | refine ⟨_, _, cs, ?_⟩
    first | refine PFun.call live03_c ?_ | refine ⟨_, _, live03_c, ?_⟩
    exact fin1 rfl
theorem parseExprBack_t (e : Ex) (hn : ∀ y ∈ e.pre, R64 y.n) : PFun Tryd.prog 7 [e.v] [] (.d (.bool true)) [] := by
  refine fn_sem pok 74 0 Tryd.func7 (by kernel_rfl) rfl rfl rfl rfl ?_
  refine SWp.go pok (by kernel_rfl) ?_
  refine PCalls.mono (restExpr_c _ e 400 (Nat.le_refl _) (by decide) (by decide)) ?_
  rintro r h' ⟨z, rfl, rfl, z0, z1, zX⟩
  refine brP_split (fun h => ?_) (fun h => ?_)
  · exact PFun.call live04_c (fin1 rfl)
  have h : 0 ≤ z := by simp at h; omega
  have fa := small_fits (by decide) (zX h) h
  have la := fun he => small_pr (by decide) (zX h) h he
  have oa := exprP_ok hn
  have ca := printExpr_c e fa.1 hn fun he => by have := la he; omega
  have cn := nestExpr_c e fa.1 hn
  refine PFun.call ca ?_
  refine PFun.call (num04_c _) ?_
  refine brP_split (fun h2 => ?_) (fun h2 => ?_)
  · exact PFun.call live04_c (fin1 rfl)
  have h2 : (exprP e).2 = 0 := by simpa using h2
  obtain ⟨p1, p2, p3, p4, p5⟩ := oa h2
  have l1 := la p1
  rw [p4]
  obtain ⟨e1, x1, x2⟩ := (expr_back e p1 p3).1 p2
  have c1 := exprTop_c (e.pr 1) (by omega)
  rw [x1] at c1
  have f1 : e1.Fit := by
    have := expr_fit (Rd.mk 0 0 (scanS (e.pr 1)).1 0)
    have hx := congrArg Prod.fst x1
    unfold exprS at hx
    split at hx
    · split at hx
      · rw [show e1 = _ from hx.symm]; exact this
      · rw [show e1 = _ from hx.symm]; exact ex0_fit
    · rw [show e1 = _ from hx.symm]; exact ex0_fit
  have s1 : e.same e1 = true := (Ex.same_er e e1).2 x2.symm
  have cs := sameExpr_c fa.2 f1
  rw [s1] at cs
  have l2 : ([40] ++ (e.pr 1 ++ [41])).length ≤ 20000 := by simp only [List.length_append, List.length_singleton]; omega
  obtain ⟨b1, b2⟩ := expr_back_par e p1 (by omega)
  rw [← List.append_assoc] at b1 b2 l2
  have c2 := exprTop_c (([40] ++ e.pr 1) ++ [41]) (by omega)
  refine PFun.call c1 ?_
  refine PFun.call (num04_c _) ?_
  refine PFun.call cs ?_
  refine ⟨by show 1 + (e.pr 1).length ≤ 4611686018427387904; omega, ?_⟩
  refine ⟨by simp only [List.length_append]; show 1 + (e.pr 1).length + 1 ≤ 4611686018427387904; omega, ?_⟩
  by_cases hd : 64 ≤ e.ns 1
  · have b2 := b2 hd
    generalize exprS (([40] ++ e.pr 1) ++ [41]) = t at b2 c2
    obtain ⟨y, g, k⟩ := t
    dsimp only at b2 c2
    subst b2
    refine PFun.call c2 ?_
    refine PFun.call cn ?_
    refine brP_true (by rw [p5]; simp; omega) ?_
    refine PFun.call (num04_c _) ?_
    refine PFun.call live04_c ?_
    exact fin1 rfl
  · obtain ⟨e2, y1, y2⟩ := b1 (by omega)
    rw [y1] at c2
    have f2 : e2.Fit := by
      have := expr_fit (Rd.mk 0 0 (scanS (([40] ++ e.pr 1) ++ [41])).1 0)
      have hx := congrArg Prod.fst y1
      unfold exprS at hx
      split at hx
      · split at hx
        · rw [show e2 = _ from hx.symm]; exact this
        · rw [show e2 = _ from hx.symm]; exact ex0_fit
      · rw [show e2 = _ from hx.symm]; exact ex0_fit
    have s2 : e.same e2 = true := (Ex.same_er e e2).2 y2.symm
    have ct := sameExpr_c fa.2 f2
    rw [s2] at ct
    refine PFun.call c2 ?_
    refine PFun.call cn ?_
    refine brP_false (by rw [p5]; simp; omega) ?_
    refine PFun.call (num04_c _) ?_
    refine PFun.call ct ?_
    refine PFun.call live04_c ?_
    exact fin1 rfl
end Go.Proofs.YtmflfcbebeikcaaDoor.Q
