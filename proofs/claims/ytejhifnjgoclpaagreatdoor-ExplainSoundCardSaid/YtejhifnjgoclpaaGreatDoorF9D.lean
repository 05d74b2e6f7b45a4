/- A closed fact of the row: named. -/
import Derived.Test.YtejhifnjgoclpaaGreatDoorRows
namespace Go.Proofs.YtejhifnjgoclpaaGreatDoor.explainSound
theorem fact_named : (Rows.explainSoundRow.named == Tryz.prog.varsNamed 9) = true := by kernel_rfl
end Go.Proofs.YtejhifnjgoclpaaGreatDoor.explainSound
