/- A closed fact that the card of topiarylaw21.ReplicaNil asks of the program. -/
import Derived.Test.YtfoocgohjmlgoaaGreatDoorRows
import Derived.SevenTiedAt
namespace Go.Proofs.YtfoocgohjmlgoaaGreatDoor
open Go

set_option maxRecDepth 100000 in
theorem nil_goes : false = Rows.replicaNilRow.goesBy Tryz.pinned.checked.prog := by kernel_rfl
end Go.Proofs.YtfoocgohjmlgoaaGreatDoor
