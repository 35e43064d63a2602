/- A closed fact that the row of topiarylaw21.ReplicaNil asks of the program. -/
import Derived.Test.YtfoocgohjmlgoaaGreatDoorRows
import Derived.JoinedOf
namespace Go.Proofs.YtfoocgohjmlgoaaGreatDoor
open Go

set_option maxRecDepth 100000 in
theorem nil_varsNamed : Tryz.pinned.checked.prog.varsNamed 3 = Rows.replicaNilRow.named := by kernel_rfl
end Go.Proofs.YtfoocgohjmlgoaaGreatDoor
