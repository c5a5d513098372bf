/- Closed facts of ReportBack's row. No condition. -/
import Derived.Test.YtblnfodnkacbbaaGreatDoorRows
import Derived.WalkKit
import Derived.ProofKit
import Derived.Lay
import Derived.LaidMore
import Derived.LaidOnce
set_option maxRecDepth 100000
namespace Go.Proofs.YtblnfodnkacbbaaGreatDoor.ReportBack
open Go Go.ChangeShapes Go.WideShapes Go.ChangeAt Go.RowKit
theorem j1 : (Rows.reportBackRow.inPlace == Tryz.prog.inPlace 4) = true := by kernel_rfl
theorem j2 : (Rows.reportBackRow.unfollowed == Tryz.prog.unfollowed 4) = true := by kernel_rfl
theorem j3 : (Rows.reportBackRow.recurses == Tryz.prog.recurses 4) = true := by kernel_rfl
theorem j4 : (Rows.reportBackRow.named == Tryz.prog.varsNamed 4) = true := by kernel_rfl
theorem j5 : (Rows.reportBackRow.lifted == Tryz.prog.liftsFinal) = true := by kernel_rfl
theorem closed : joinedFacts Tryz.prog 4 Tryz.f4 Rows.reportBackSpec Rows.reportBackRow = true := by
  unfold joinedFacts
  rw [j1, j2, j3, j4, j5]
  kernel_rfl
end Go.Proofs.YtblnfodnkacbbaaGreatDoor.ReportBack
