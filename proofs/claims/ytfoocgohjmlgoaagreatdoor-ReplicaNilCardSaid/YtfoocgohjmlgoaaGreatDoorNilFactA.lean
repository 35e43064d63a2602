/- A closed fact that the row of topiarylaw21.ReplicaNil asks of the program. -/
import Derived.Test.YtfoocgohjmlgoaaGreatDoorRows
import Derived.JoinedOf
namespace Go.Proofs.YtfoocgohjmlgoaaGreatDoor
open Go

set_option maxRecDepth 100000 in
theorem nil_inPlace : Tryz.pinned.checked.prog.inPlace 3 = Rows.replicaNilRow.inPlace := by kernel_rfl
end Go.Proofs.YtfoocgohjmlgoaaGreatDoor
