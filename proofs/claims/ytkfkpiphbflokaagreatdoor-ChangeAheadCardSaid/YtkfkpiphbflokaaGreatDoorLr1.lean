/- topiarylaw05.ChangeAhead under tables: three stamps that stay. -/
import Derived.Test.YtkfkpiphbflokaaGreatDoorLa
namespace Go.Proofs.YtkfkpiphbflokaaGreatDoor
open Go Go.Eng
set_option maxRecDepth 100000 in
theorem ok3 : descs3.all okAt = true := by kernel_rfl
end Go.Proofs.YtkfkpiphbflokaaGreatDoor
