import Derived.Test.YtejhifnjgoclpaaGreatDoorRows
namespace Go.Proofs.YtejhifnjgoclpaaGreatDoor.explainChecks
theorem fact_named : (Rows.explainChecksRow.named == Tryz.prog.varsNamed 8) = true := by kernel_rfl
end Go.Proofs.YtejhifnjgoclpaaGreatDoor.explainChecks
