import Derived.Test.YtejhifnjgoclpaaGreatDoorRows
namespace Go.Proofs.YtejhifnjgoclpaaGreatDoor.explainChecks
theorem fact_unfollowed : (Rows.explainChecksRow.unfollowed == Tryz.prog.unfollowed 8) = true := by kernel_rfl
end Go.Proofs.YtejhifnjgoclpaaGreatDoor.explainChecks
