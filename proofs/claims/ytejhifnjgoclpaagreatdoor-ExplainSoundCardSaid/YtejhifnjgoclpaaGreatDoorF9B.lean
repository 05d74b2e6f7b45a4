/- A closed fact of the row: unfollowed. -/
import Derived.Test.YtejhifnjgoclpaaGreatDoorRows
namespace Go.Proofs.YtejhifnjgoclpaaGreatDoor.explainSound
theorem fact_unfollowed : (Rows.explainSoundRow.unfollowed == Tryz.prog.unfollowed 9) = true := by kernel_rfl
end Go.Proofs.YtejhifnjgoclpaaGreatDoor.explainSound
