/- A closed fact of the row: unfollowed. -/
import Derived.Test.YtejhifnjgoclpaaGreatDoorRows
namespace Go.Proofs.YtejhifnjgoclpaaGreatDoor.encodeNames
theorem fact_unfollowed : (Rows.encodeNamesRow.unfollowed == Tryz.prog.unfollowed 7) = true := by kernel_rfl
end Go.Proofs.YtejhifnjgoclpaaGreatDoor.encodeNames
