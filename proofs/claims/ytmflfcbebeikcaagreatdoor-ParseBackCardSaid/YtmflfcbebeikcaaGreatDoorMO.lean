/- Fixed pieces of text: what the parser says of them. No condition. -/
import Derived.Test.YtmflfcbebeikcaaGreatDoorML
import Derived.KernelRfl
set_option linter.unusedVariables false
set_option linter.unusedSectionVars false
set_option linter.unnecessarySimpa false
set_option linter.unusedSimpArgs false
set_option maxRecDepth 100000
set_option maxHeartbeats 4000000
namespace Go.Proofs.YtmflfcbebeikcaaGreatDoor.Q
open Go.RowKit
def vx (n : UInt8) (pl : Int) : Ex := ⟨4, [97], [n], 0, [], pl⟩
theorem evA : exprS [97, 46, 120, 32, 43, 32, 50, 32, 42, 32, 97, 46, 121] = (⟨8, [], [], 0, [vx 120 0, ⟨7, [], [], 2, [vx 121 10], 6⟩], 0⟩, 0, 0) := by kernel_rfl
theorem evB : parseS [116, 104, 114, 101, 97, 100, 32, 116, 32, 49, 32, 123, 32, 115, 107, 105, 112, 32, 125] = (⟨[], []⟩, 40, 18) := by kernel_rfl
theorem evC : parseS [116, 104, 114, 101, 97, 100, 32, 116, 32, 42, 32, 123, 32, 115, 107, 105, 112, 59, 32, 125] = (⟨[], [⟨[116], true, 0, [⟨1, [], [], 0, ex0, [], 13⟩], 7⟩]⟩, 0, 0) := by kernel_rfl
variable [Amb]
theorem num04_c (n : Int) : PFun Tryz.prog 13 [iv n] [] (iv n) [] := by
  refine fn_sem pok 4 0 Tryz.func13 (by kernel_rfl) rfl rfl rfl rfl ?_
  refine SWp.go pok (by kernel_rfl) ?_
  exact fin1 rfl
theorem live04_c : PFun Tryz.prog 12 [] [] (.d (.bool true)) [] := by
  have c1 := exprTop_c [97, 46, 120, 32, 43, 32, 50, 32, 42, 32, 97, 46, 121] (by decide)
  rw [evA] at c1
  have c2 := parse_c [116, 104, 114, 101, 97, 100, 32, 116, 32, 49, 32, 123, 32, 115, 107, 105, 112, 32, 125] (by decide)
  rw [evB] at c2
  have c3 := parse_c [116, 104, 114, 101, 97, 100, 32, 116, 32, 42, 32, 123, 32, 115, 107, 105, 112, 59, 32, 125] (by decide)
  rw [evC] at c3
  refine fn_sem pok 95 0 Tryz.func12 (by kernel_rfl) rfl rfl rfl rfl ?_
  refine SWp.go pok (by kernel_rfl) ?_
  refine PFun.call c1 ?_
  refine PFun.call c2 ?_
  refine PFun.call c3 ?_
  refine PFun.call (num04_c 0) ?_
  refine PIdx.map' (l := [vx 120 0, ⟨7, [], [], 2, [vx 121 10], 6⟩]) (f := Ex.e) rfl rfl ?_
  refine PIdx.map' (l := [vx 120 0, ⟨7, [], [], 2, [vx 121 10], 6⟩]) (f := Ex.e) rfl rfl ?_
  refine PFun.call (num04_c 40) ?_
  refine PFun.call (num04_c 0) ?_
  refine PIdx.map (l := [⟨[116], true, 0, [⟨1, [], [], 0, ex0, [], 13⟩], 7⟩]) (f := Ro.c) (i := 0) rfl ?_
  refine PIdx.map (l := [⟨[116], true, 0, [⟨1, [], [], 0, ex0, [], 13⟩], 7⟩]) (f := Ro.c) (i := 0) rfl ?_
  exact fin1 rfl
end Go.Proofs.YtmflfcbebeikcaaGreatDoor.Q
