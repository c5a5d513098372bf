/- Fixed programs printed; the laws' first line. No condition. -/
import Derived.Test.YtmflfcbebeikcaaGreatDoorMI
set_option linter.unusedVariables false
set_option linter.unusedSectionVars false
set_option linter.unnecessarySimpa false
set_option linter.unusedSimpArgs false
set_option maxRecDepth 100000
set_option maxHeartbeats 4000000
namespace Go.Proofs.YtmflfcbebeikcaaGreatDoor.Q
open Go.RowKit
variable [Amb] [Pow]
theorem num03_c (n : Int) : PFun Tryz.prog 9 [iv n] [] (iv n) [] := by
  refine fn_sem pok 4 0 Tryz.func9 (by kernel_rfl) rfl rfl rfl rfl ?_
  refine SWp.go pok (by kernel_rfl) ?_
  exact fin1 rfl
def va (n : Str) : Ex := ⟨4, [97], n, 0, [], 0⟩
theorem v03_c (n : Str) : PFun Tryz.prog 18 [sv' n] [] (va n).v [] := by
  refine fn_sem pok 5 0 Tryz.func18 (by kernel_rfl) rfl rfl rfl rfl ?_
  refine SWp.go pok (by kernel_rfl) ?_
  exact fin1 rfl
def lvE : Ex := ⟨16, [], [], 0, [⟨17, [], [], 0, [va [120], va [121]], 0⟩, ⟨5, [], [], 0, [va [122]], 0⟩], 0⟩
def lvP : Pg := ⟨[], [⟨[114], false, 2, [⟨1, [], [], 0, ⟨0, [], [], 0, [], 0⟩, [], 0⟩], 0⟩]⟩
def lvQ : Pg := ⟨[], [⟨[114], true, 0, [], 0⟩]⟩
theorem lvE_pre : lvE.pre = [lvE, ⟨17, [], [], 0, [va [120], va [121]], 0⟩, va [120], va [121], ⟨5, [], [], 0, [va [122]], 0⟩, va [122]] := by kernel_rfl
theorem lvE_txt : exprP lvE = ([40, 97, 46, 120, 32, 124, 124, 32, 97, 46, 121, 41, 32, 38, 38, 32, 33, 97, 46, 122], 0) := by kernel_rfl
theorem lvE_nest : nestP lvE = 1 := by kernel_rfl
theorem lvE_len : (lvE.pr 1).length = 20 := by kernel_rfl
theorem lvP_check : checkP lvP = 0 := by kernel_rfl
theorem lvQ_check : checkP lvQ = 0 := by kernel_rfl
theorem lvQ_nest : nestPg lvQ = 1 := by kernel_rfl
theorem lvP_nest : nestPg lvP = 1 := by kernel_rfl
theorem itoa2 : Lib.itoa 2 = [50] := by
  unfold Lib.itoa
  rw [if_neg (by decide)]
  exact Lib.decDigits_one (by decide)
theorem lvP_txt : textS lvP = [116, 104, 114, 101, 97, 100, 32, 114, 32, 50, 32, 123, 10, 32, 32, 115, 107, 105, 112, 59, 10, 125, 10] := by
  show ([] : Str) ++ (((ind 0 ++ ([116, 104, 114, 101, 97, 100, 32] ++ ([114] ++ [32]))) ++ (Lib.itoa 2 ++ (blockT St.tx [⟨1, [], [], 0, ⟨0, [], [], 0, [], 0⟩, [], 0⟩] 0 ++ [10]))) ++ []) = _
  rw [itoa2]
  kernel_rfl
theorem lvE_c : PFun Tryz.prog 19 [lvE.v] [] (.tup [sv' (exprP lvE).1, iv (exprP lvE).2]) [] := by
  refine printExpr_c lvE ⟨by rw [lvE_pre]; decide, fun y hy => ?_⟩ (fun y hy => ?_) (fun _ => by rw [lvE_len]; decide)
  · rw [lvE_pre] at hy
    simp only [List.mem_cons, List.not_mem_nil, or_false] at hy
    rcases hy with rfl | rfl | rfl | rfl | rfl | rfl <;> exact ⟨by decide, by decide, by decide⟩
  · rw [lvE_pre] at hy
    simp only [List.mem_cons, List.not_mem_nil, or_false] at hy
    rcases hy with rfl | rfl | rfl | rfl | rfl | rfl <;> exact ⟨by decide, by decide⟩
theorem lvE_n : PFun Tryz.prog 20 [lvE.v] [] (iv (nestP lvE)) [] := by
  refine nestExpr_c lvE ⟨by rw [lvE_pre]; decide, fun y hy => ?_⟩ (fun y hy => ?_)
  · rw [lvE_pre] at hy
    simp only [List.mem_cons, List.not_mem_nil, or_false] at hy
    rcases hy with rfl | rfl | rfl | rfl | rfl | rfl <;> exact ⟨by decide, by decide, by decide⟩
  · rw [lvE_pre] at hy
    simp only [List.mem_cons, List.not_mem_nil, or_false] at hy
    rcases hy with rfl | rfl | rfl | rfl | rfl | rfl <;> exact ⟨by decide, by decide⟩
def lv0 : Ex := ⟨0, [], [], 0, [], 0⟩
theorem lv0_pre : lv0.pre = [lv0] := by kernel_rfl
theorem lv0_txt : exprP lv0 = ([], 20) := by kernel_rfl
theorem lv0_c : PFun Tryz.prog 19 [lv0.v] [] (.tup [sv' (exprP lv0).1, iv (exprP lv0).2]) [] := by
  refine printExpr_c lv0 ⟨by rw [lv0_pre]; decide, fun y hy => ?_⟩ (fun y hy => ?_) (fun h => absurd h.op.1 (by decide))
  · rw [lv0_pre] at hy
    rw [List.mem_singleton.1 hy]; exact ⟨by decide, by decide, by decide⟩
  · rw [lv0_pre] at hy
    rw [List.mem_singleton.1 hy]; exact ⟨by decide, by decide⟩
theorem lv0_fits : lv0.fits := by
  refine ⟨by rw [lv0_pre]; decide, fun y hy => ?_⟩
  rw [lv0_pre] at hy
  rw [List.mem_singleton.1 hy]; exact ⟨by decide, by decide, by decide⟩
def lvSt : St := ⟨1, [], [], 0, lv0, [], 0⟩
theorem lvS_f : SF lvSt := .mk (by decide) (by decide) lv0_fits (by decide) (by simp) (by simp)
theorem lvS_n : StN lvSt := .mk (fun h => absurd rfl h) (by decide) (by simp) (by simp)
theorem lvS_p : StP lvSt := .mk (by decide) (by unfold R64; decide) (fun h => absurd h (by decide)) (fun h => absurd rfl h) (by decide) (by simp) (by simp)
theorem lvP_f : PgF lvP := ⟨fun m hm => by simp [lvP] at hm, fun r hr => by
  simp only [lvP, List.mem_singleton] at hr
  subst hr
  exact ⟨by show 1 < 1073741824; decide, ⟨by show 1 < 1073741824; decide, fun y hy => by rw [show y = lvSt from List.mem_singleton.1 hy]; exact lvS_f⟩⟩⟩
theorem lvP_n : PgN lvP := ⟨by decide, by decide, fun m hm => by simp [lvP] at hm, fun m hm => by simp [lvP] at hm, fun r hr => by
  simp only [lvP, List.mem_singleton] at hr
  subst hr
  exact ⟨by show 1 < 1073741824; decide, by show St.cnL [lvSt] < 1073741824; decide, fun y hy => by rw [show y = lvSt from List.mem_singleton.1 hy]; exact lvS_n⟩⟩
theorem lvP_p : PgP lvP := ⟨by decide, by decide, fun m hm => by simp [lvP] at hm, fun r hr => by
  simp only [lvP, List.mem_singleton] at hr
  subst hr
  exact ⟨by unfold R64; decide, by show 1 < 1073741824; decide, fun y hy => by rw [show y = lvSt from List.mem_singleton.1 hy]; exact lvS_p⟩⟩
theorem lvP_c : PFun Tryz.prog 7 [lvP.v] [] (.tup [sv' (textP lvP).1, iv (textP lvP).2]) [] :=
  text_c lvP lvP_f (fun _ => lvP_n) fun _ => ⟨lvP_p, by rw [lvP_txt]; decide⟩
theorem lvP_T : textP lvP = ([116, 104, 114, 101, 97, 100, 32, 114, 32, 50, 32, 123, 10, 32, 32, 115, 107, 105, 112, 59, 10, 125, 10], 0) := by
  unfold textP
  rw [if_neg (by rw [lvP_check]; decide), if_neg (by rw [lvP_nest]; decide), lvP_txt]
  rfl
theorem lvQ_f : PgF lvQ := ⟨fun m hm => by simp [lvQ] at hm, fun r hr => by
  simp only [lvQ, List.mem_singleton] at hr
  subst hr
  exact ⟨by show 1 < 1073741824; decide, ⟨by show 0 < 1073741824; decide, fun y hy => by cases hy⟩⟩⟩
theorem lvQ_n : PgN lvQ := ⟨by decide, by decide, fun m hm => by simp [lvQ] at hm, fun m hm => by simp [lvQ] at hm, fun r hr => by
  simp only [lvQ, List.mem_singleton] at hr
  subst hr
  exact ⟨by show 0 < 1073741824; decide, by show St.cnL [] < 1073741824; decide, fun y hy => by cases hy⟩⟩
theorem lvQ_c : PFun Tryz.prog 10 [lvQ.v] [] (iv (nestPg lvQ)) [] := nestPg_c lvQ lvQ_f fun _ => lvQ_n
end Go.Proofs.YtmflfcbebeikcaaGreatDoor.Q

namespace Go.Proofs.YtmflfcbebeikcaaGreatDoor.Q
open Go.RowKit
variable [Amb] [Pow]
theorem live03_c : PFun Tryz.prog 6 [] [] (.d (.bool true)) [] := by
  have c1 := lvE_c
  have c2 := lvE_n
  have c3 := lvP_c
  have c4 := lv0_c
  have c5 := lvQ_c
  rw [lvE_txt] at c1
  rw [lvE_nest] at c2
  rw [lvP_T] at c3
  rw [lv0_txt] at c4
  rw [lvQ_nest] at c5
  refine fn_sem pok 69 0 Tryz.func6 (by kernel_rfl) rfl rfl rfl rfl ?_
  refine SWp.go pok (by kernel_rfl) ?_
  refine PFun.call (v03_c [120]) ?_
  refine PFun.call (v03_c [121]) ?_
  refine PFun.call (v03_c [122]) ?_
  refine PFun.call c1 ?_
  refine PFun.call c3 ?_
  refine PFun.call c4 ?_
  refine PFun.call (num03_c _) ?_
  refine PFun.call c2 ?_
  refine PFun.call (num03_c _) ?_
  refine PFun.call (num03_c _) ?_
  refine PFun.call c5 ?_
  exact fin1 rfl
end Go.Proofs.YtmflfcbebeikcaaGreatDoor.Q
