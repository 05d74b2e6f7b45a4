/- A closed fact of the row: inPlace. -/
import Derived.Test.YtoebfmhogkjmgaaGreatDoorRows
namespace Go.Proofs.YtoebfmhogkjmgaaGreatDoor
theorem fact_inPlace : (Rows.runTextsRow.inPlace == Tryz.prog.inPlace 3) = true := by kernel_rfl
end Go.Proofs.YtoebfmhogkjmgaaGreatDoor
