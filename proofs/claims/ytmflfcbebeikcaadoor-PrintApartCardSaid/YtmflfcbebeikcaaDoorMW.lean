/- Texts tell programs apart. No condition. -/
import Derived.Test.YtmflfcbebeikcaaDoorMV
import Derived.Test.YtmflfcbebeikcaaDoorMJ
set_option linter.unusedVariables false
set_option linter.unusedSectionVars false
set_option linter.unnecessarySimpa false
set_option linter.unusedSimpArgs false
set_option maxRecDepth 100000
set_option maxHeartbeats 4000000
namespace Go.Proofs.YtmflfcbebeikcaaDoor.Q
open Go.RowKit
variable [Amb] [Pow]
theorem printApart_t (p q : Pg) (hp : PgNum p) (hq : PgNum q) : PFun Tryd.prog 6 [p.v, q.v] [] (.d (.bool true)) [] := by
  refine fn_sem pok 45 0 Tryd.func6 (by kernel_rfl) rfl rfl rfl rfl ?_
  refine SWp.go pok (by kernel_rfl) ?_
  refine PCalls.mono (small02_c p 400 (by decide) (by decide)) ?_
  rintro r h' ⟨b, rfl, rfl, hb⟩
  cases b with
  | false => exact PFun.call live03_c (fin1 rfl)
  | true =>
  refine PCalls.mono (small02_c q 400 (by decide) (by decide)) ?_
  rintro r h' ⟨c, rfl, rfl, hc⟩
  cases c with
  | false => exact PFun.call live03_c (fin1 rfl)
  | true =>
  have A := (hb rfl).all hp
  have B := (hc rfl).all hq
  have oa := @textP_ok _ _ p
  have ob := @textP_ok _ _ q
  have na := textP_nn p
  have nb := textP_nn q
  refine PFun.call (text_c p A.f A.n A.p) ?_
  refine PFun.call (text_c q B.f B.n B.p) ?_
  refine PFun.call (num03_c _) ?_
  refine PFun.call (num03_c _) ?_
  have hw : IntKind.i64.wrap ((textP p).2 + (textP q).2) = (textP p).2 + (textP q).2 := wrap_in (by unfold R64; omega)
  refine brP_split (fun h2 => ?_) (fun h2 => ?_)
  · exact PFun.call live03_c (fin1 rfl)
  have h2 : (textP p).2 = 0 ∧ (textP q).2 = 0 := by
    rw [hw] at h2
    simp at h2
    omega
  obtain ⟨p1, p2, p3, p4⟩ := oa h2.1
  obtain ⟨q1, q2, q3, q4⟩ := ob h2.2
  have key := apart_prog (A.k p1) (B.k q1) p2 q2 p3 q3
  rw [← p4, ← q4] at key
  have cs := same_c p q A.fit B.fit
  rw [← key] at cs
  refine brP_split (fun h3 => ?_) (fun h3 => ?_)
  · rw [h3] at cs
    first | refine PFun.call cs ?_ | refine ⟨_, _, cs, ?_⟩
    first | refine PFun.call live03_c ?_ | refine ⟨_, _, live03_c, ?_⟩
    exact fin1 rfl
  · rw [h3] at cs
    first | refine PFun.call cs ?_ | refine ⟨_, _, cs, ?_⟩
    first | refine PFun.call live03_c ?_ | refine ⟨_, _, live03_c, ?_⟩
    exact fin1 rfl
end Go.Proofs.YtmflfcbebeikcaaDoor.Q
