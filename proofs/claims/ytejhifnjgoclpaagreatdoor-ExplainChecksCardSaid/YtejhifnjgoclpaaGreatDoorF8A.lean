import Derived.Test.YtejhifnjgoclpaaGreatDoorRows
namespace Go.Proofs.YtejhifnjgoclpaaGreatDoor.explainChecks
theorem fact_inPlace : (Rows.explainChecksRow.inPlace == Tryz.prog.inPlace 8) = true := by kernel_rfl
end Go.Proofs.YtejhifnjgoclpaaGreatDoor.explainChecks
