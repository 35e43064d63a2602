/- A closed fact that the card of topiarylaw21.ReplicaNil asks of the program. -/
import Derived.Test.YtfoocgohjmlgoaaGreatDoorRows
import Derived.SevenTiedAt
namespace Go.Proofs.YtfoocgohjmlgoaaGreatDoor
open Go

set_option maxRecDepth 100000 in
theorem nil_main : Tryz.pinned.checked.prog.mainIs = some (true, "91f4f5e8a2b8516f82b50c18689f1edfa561769ff45fec8fe61378cd191e3dd0".toList) := by kernel_rfl
end Go.Proofs.YtfoocgohjmlgoaaGreatDoor
