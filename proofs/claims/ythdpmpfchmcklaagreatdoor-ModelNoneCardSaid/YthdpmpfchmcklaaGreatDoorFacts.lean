/- Closed facts of the row of ModelNone, each by the kernel. -/
import Derived.Test.YthdpmpfchmcklaaGreatDoorCards
import Derived.ProofKit
import Derived.OpenShut
import Derived.Stop.Joined
namespace Go.Proofs.YthdpmpfchmcklaaGreatDoor
open Go
theorem row_facts : joinedFacts Tryz.prog 3 Tryz.f3 Rows.modelNoneSpec Rows.modelNoneRow = true := by kernel_rfl
end Go.Proofs.YthdpmpfchmcklaaGreatDoor
