/- A closed fact of the row: named. -/
import Derived.Test.YtoebfmhogkjmgaaGreatDoorRows
namespace Go.Proofs.YtoebfmhogkjmgaaGreatDoor
theorem fact_named : (Rows.runTextsRow.named == Tryz.prog.varsNamed 3) = true := by kernel_rfl
end Go.Proofs.YtoebfmhogkjmgaaGreatDoor
