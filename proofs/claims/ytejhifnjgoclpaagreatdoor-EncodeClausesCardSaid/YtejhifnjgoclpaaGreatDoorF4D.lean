/- A closed fact of the row: named. -/
import Derived.Test.YtejhifnjgoclpaaGreatDoorRows
namespace Go.Proofs.YtejhifnjgoclpaaGreatDoor.encodeClauses
theorem fact_named : (Rows.encodeClausesRow.named == Tryz.prog.varsNamed 4) = true := by kernel_rfl
end Go.Proofs.YtejhifnjgoclpaaGreatDoor.encodeClauses
