/- A closed fact of the row: unfollowed. -/
import Derived.Test.YtejhifnjgoclpaaGreatDoorRows
namespace Go.Proofs.YtejhifnjgoclpaaGreatDoor.encodeChoices
theorem fact_unfollowed : (Rows.encodeChoicesRow.unfollowed == Tryz.prog.unfollowed 5) = true := by kernel_rfl
end Go.Proofs.YtejhifnjgoclpaaGreatDoor.encodeChoices
