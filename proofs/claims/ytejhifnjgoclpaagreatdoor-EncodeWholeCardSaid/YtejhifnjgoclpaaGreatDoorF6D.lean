/- A closed fact of the row: named. -/
import Derived.Test.YtejhifnjgoclpaaGreatDoorRows
namespace Go.Proofs.YtejhifnjgoclpaaGreatDoor.encodeWhole
theorem fact_named : (Rows.encodeWholeRow.named == Tryz.prog.varsNamed 6) = true := by kernel_rfl
end Go.Proofs.YtejhifnjgoclpaaGreatDoor.encodeWhole
