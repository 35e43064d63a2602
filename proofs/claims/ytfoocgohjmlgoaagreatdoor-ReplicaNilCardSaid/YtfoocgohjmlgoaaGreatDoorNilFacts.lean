/- The closed facts that the row of topiarylaw21.ReplicaNil asks of the program. -/
import Derived.Test.YtfoocgohjmlgoaaGreatDoorNilFactA
import Derived.Test.YtfoocgohjmlgoaaGreatDoorNilFactB
import Derived.Test.YtfoocgohjmlgoaaGreatDoorNilFactC
import Derived.Test.YtfoocgohjmlgoaaGreatDoorNilFactD
namespace Go.Proofs.YtfoocgohjmlgoaaGreatDoor
open Go

set_option maxRecDepth 100000 in
theorem nil_facts : joinedFacts Tryz.pinned.checked.prog 3 Tryz.f3 Rows.replicaNilSpec Rows.replicaNilRow = true := by
  unfold joinedFacts
  rw [nil_inPlace, nil_unfollowed, nil_recurses, nil_varsNamed]
  kernel_rfl
end Go.Proofs.YtfoocgohjmlgoaaGreatDoor
