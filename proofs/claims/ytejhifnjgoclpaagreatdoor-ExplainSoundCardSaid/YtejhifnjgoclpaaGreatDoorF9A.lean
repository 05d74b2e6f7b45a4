/- A closed fact of the row: inPlace. -/
import Derived.Test.YtejhifnjgoclpaaGreatDoorRows
namespace Go.Proofs.YtejhifnjgoclpaaGreatDoor.explainSound
theorem fact_inPlace : (Rows.explainSoundRow.inPlace == Tryz.prog.inPlace 9) = true := by kernel_rfl
end Go.Proofs.YtejhifnjgoclpaaGreatDoor.explainSound
