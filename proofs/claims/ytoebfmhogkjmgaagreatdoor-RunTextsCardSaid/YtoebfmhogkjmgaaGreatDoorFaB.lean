/- A closed fact of the row: unfollowed. -/
import Derived.Test.YtoebfmhogkjmgaaGreatDoorRows
namespace Go.Proofs.YtoebfmhogkjmgaaGreatDoor
theorem fact_unfollowed : (Rows.runTextsRow.unfollowed == Tryz.prog.unfollowed 3) = true := by kernel_rfl
end Go.Proofs.YtoebfmhogkjmgaaGreatDoor
