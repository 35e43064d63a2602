/- topiarylaw05.ChangeSames under tables: three stamps that stay. -/
import Derived.Test.YtkfkpiphbflokaaGreatDoorSs
namespace Go.Proofs.YtkfkpiphbflokaaGreatDoor
open Go Go.Eng
set_option maxRecDepth 100000 in
theorem sames3 : descs3.all samesAt = true := by kernel_rfl
end Go.Proofs.YtkfkpiphbflokaaGreatDoor
