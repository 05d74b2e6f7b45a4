/- A closed fact of the row: unfollowed. -/
import Derived.Test.YtejhifnjgoclpaaGreatDoorRows
namespace Go.Proofs.YtejhifnjgoclpaaGreatDoor.encodeFacts
theorem fact_unfollowed : (Rows.encodeFactsRow.unfollowed == Tryz.prog.unfollowed 3) = true := by kernel_rfl
end Go.Proofs.YtejhifnjgoclpaaGreatDoor.encodeFacts
