/- The law of printed expressions. No condition. -/
import Derived.Test.YtmflfcbebeikcaaDoorMJ
import Derived.Test.YtmflfcbebeikcaaDoorMG
import Derived.Test.YtmflfcbebeikcaaDoorME
set_option linter.unusedVariables false
set_option linter.unusedSectionVars false
set_option linter.unnecessarySimpa false
set_option linter.unusedSimpArgs false
set_option maxRecDepth 100000
set_option maxHeartbeats 4000000
namespace Go.Proofs.YtmflfcbebeikcaaDoor.Q
open Go.RowKit
variable [Amb] [Pow]
theorem printExprs_t (e : Ex) (hn : ∀ y ∈ e.pre, R64 y.n) : PFun Tryd.prog 3 [e.v] [] (.d (.bool true)) [] := by
  refine fn_sem pok 40 0 Tryd.func3 (by kernel_rfl) rfl rfl rfl rfl ?_
  refine SWp.go pok (by kernel_rfl) ?_
  refine PCalls.mono (restExpr_c _ e 400 (Nat.le_refl _) (by decide) (by decide)) ?_
  rintro r h' ⟨z, rfl, rfl, z0, z1, zX⟩
  refine brP_split (fun h => ?_) (fun h => ?_)
  · exact PFun.call live03_c (fin1 rfl)
  have h : 0 ≤ z := by simp at h; omega
  obtain ⟨x1, x2⟩ := zX h
  have hf : e.fits := ⟨by omega, fun y hy => by
    have := x2 y hy
    exact ⟨by omega, by omega, by omega⟩⟩
  have hl : PrOk e → (e.pr 1).length ≤ 140737488355328 := fun he => by
    have := pr_len _ e (Nat.le_refl _) he (fun y hy => ⟨(x2 y hy).2.1, (x2 y hy).2.2⟩) 1
    omega
  refine PFun.call (printExpr_c e hf hn hl) ?_
  refine PFun.call (refExprP_c e hf hn hl) ?_
  refine brP_true (by simp) ?_
  refine ⟨_, _, num03_c _, ?_⟩
  refine brP_true (by simp) ?_
  refine ⟨_, _, nestExpr_c e hf hn, ?_⟩
  refine ⟨_, _, refNestP_c e hf hn, ?_⟩
  refine brP_true (by simp) ?_
  refine ⟨_, _, live03_c, ?_⟩
  exact fin1 rfl
end Go.Proofs.YtmflfcbebeikcaaDoor.Q
