/- Sums of variables: what every statement asks of some fixed sums. No condition. -/
import Derived.Test.YtlafnhpmhflnaaaQzu
import Derived.Test.YtlafnhpmhflnaaaQzd
set_option linter.unusedVariables false
set_option linter.unusedSectionVars false
set_option linter.unnecessarySimpa false
set_option linter.unusedSimpArgs false
set_option maxRecDepth 100000
set_option maxHeartbeats 4000000
namespace Go.Proofs.Ytlafnhpmhflnaaa.Q
open Go.RowKit
variable [Amb]
def liveP : Pg := ⟨[⟨[97], [⟨[120], 2, 0, 0, 0, 0⟩], [], 0⟩], []⟩
def liveX : Ex := ⟨4, [97], [120], 0, [], 0⟩
def liveE : Ex := ⟨9, [], [], 0, [⟨7, [], [], 2, [liveX], 0⟩, ⟨1, [], [], 3, [], 0⟩], 0⟩
def liveA : Ln := ⟨-3, [⟨0, 2⟩]⟩
def liveC : Cn := ⟨1, ⟨3, [⟨0, 2⟩]⟩⟩
def liveD : Cn := ⟨1, ⟨2, [⟨0, 1⟩]⟩⟩
theorem addT_live : addT [⟨0, 2⟩] [] = some [⟨0, 2⟩] := by rw [addT_xn, addT]; rfl
theorem live_check : checkS liveE = 0 := by kernel_rfl
theorem live_type : typeS liveP liveE = (2, 0, 0) := by kernel_rfl
theorem live_value : valueS liveA [5] = (7, true) := by kernel_rfl
theorem live_tight : tightS liveC = (liveD, true) := by kernel_rfl
theorem live_same : sameS liveA liveA = true := by kernel_rfl
theorem live_yes : holdsS liveD [-2] = true := by kernel_rfl
theorem live_no : holdsS liveD [-1] = false := by kernel_rfl
theorem live_is : isB [⟨0, 2⟩] = true := by kernel_rfl
theorem live_not : isB [⟨0, 0⟩] = false := by kernel_rfl
theorem live_two : (Ex.mk 7 [] [] 2 [liveX] 0).sum liveP = (⟨0, [⟨0, 2⟩]⟩, true) := by kernel_rfl
theorem live_three : (Ex.mk 1 [] [] 3 [] 0).sum liveP = (⟨3, []⟩, true) := by kernel_rfl
theorem live_neg : scaleS ⟨3, []⟩ (-1) = (⟨-3, []⟩, true) := by kernel_rfl
theorem live_add : addL ⟨0, [⟨0, 2⟩]⟩ ⟨-3, []⟩ = (liveA, true) := add_yes (by kernel_rfl) (by kernel_rfl) (by kernel_rfl) addT_live (by decide)
theorem live_sum : liveE.sum liveP = (liveA, true) := by
  rw [Ex.sum_eq]
  show sumA 9 0 ((Ex.mk 7 [] [] 2 [liveX] 0).sum liveP) (some ((Ex.mk 1 [] [] 3 [] 0).sum liveP)) = _
  rw [live_two, live_three]
  show (if (scaleS ⟨3, []⟩ (-1)).2 = true then addL ⟨0, [⟨0, 2⟩]⟩ (scaleS ⟨3, []⟩ (-1)).1 else noLn) = _
  rw [live_neg]
  exact live_add
theorem live_of : linOfS liveP liveE = (liveA, true) := by unfold linOfS; rw [live_type]; exact live_sum
theorem liveA_ok : liveA.ok := ⟨by unfold R64; decide, fun t ht => by simp [liveA] at ht; subst ht; exact ⟨by unfold R64; decide, by unfold R64; decide⟩⟩
theorem liveC_ok : liveC.ok := ⟨by unfold R64; decide, by unfold R64; decide, fun t ht => by simp [liveC] at ht; subst ht; exact ⟨by unfold R64; decide, by unfold R64; decide⟩⟩
theorem liveD_ok : liveD.ok := ⟨by unfold R64; decide, by unfold R64; decide, fun t ht => by simp [liveD] at ht; subst ht; exact ⟨by unfold R64; decide, by unfold R64; decide⟩⟩
theorem live_pre : liveE.pre = [liveE, ⟨7, [], [], 2, [liveX], 0⟩, liveX, ⟨1, [], [], 3, [], 0⟩] := by kernel_rfl
theorem liveE_fits : liveE.fits := ⟨by rw [live_pre]; decide, fun y hy => by
  rw [live_pre] at hy
  simp at hy
  rcases hy with rfl | rfl | rfl | rfl <;> exact ⟨by decide, by decide, by decide⟩⟩
theorem liveE_nums : liveE.nums := fun y hy => by
  rw [live_pre] at hy
  simp at hy
  rcases hy with rfl | rfl | rfl | rfl <;> (unfold R64; decide)
theorem liveP_fits : liveP.fits := ⟨by decide, by decide⟩
theorem live_c : PFun Try.prog 11 [] [] (.d (.bool true)) [] := by
  refine fn_sem pok 104 0 Try.func11 (by kernel_rfl) rfl rfl rfl rfl ?_
  refine SWp.go pok (by kernel_rfl) ?_
  have h1 := linOf_c liveP liveE liveP_fits liveE_fits liveE_nums
  rw [live_of] at h1
  refine PFun.call h1 ?_
  have h2 := linValue_c liveA [5] liveA_ok (fun n hn => by simp at hn; subst hn; unfold R64; decide)
  rw [live_value] at h2
  refine PFun.call h2 ?_
  have h3 := linTight_c liveC liveC_ok
  rw [live_tight] at h3
  refine PFun.call h3 ?_
  have h4 := Same_c liveA liveA (by decide)
  rw [live_same] at h4
  refine PFun.call h4 ?_
  refine PIdx.map (l := [⟨0, 1⟩]) (f := Tm.e) (i := 0) (x := ⟨0, 1⟩) rfl ?_
  have h5 := linHolds_c liveD [-2] liveD_ok (fun n hn => by simp at hn; subst hn; unfold R64; decide)
  rw [live_yes] at h5
  refine PFun.call h5 ?_
  have h6 := linHolds_c liveD [-1] liveD_ok (fun n hn => by simp at hn; subst hn; unfold R64; decide)
  rw [live_no] at h6
  refine PFun.call h6 ?_
  have h7 := linIs_c liveA
  rw [show isB liveA.l = true from live_is] at h7
  refine PFun.call h7 ?_
  have h8 := linIs_c ⟨0, [⟨0, 0⟩]⟩
  rw [live_not] at h8
  refine PFun.call h8 ?_
  exact fin1 rfl
end Go.Proofs.Ytlafnhpmhflnaaa.Q
