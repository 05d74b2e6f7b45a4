/- A closed fact of the row: named. -/
import Derived.Test.YtejhifnjgoclpaaGreatDoorRows
namespace Go.Proofs.YtejhifnjgoclpaaGreatDoor.encodeChoices
theorem fact_named : (Rows.encodeChoicesRow.named == Tryz.prog.varsNamed 5) = true := by kernel_rfl
end Go.Proofs.YtejhifnjgoclpaaGreatDoor.encodeChoices
