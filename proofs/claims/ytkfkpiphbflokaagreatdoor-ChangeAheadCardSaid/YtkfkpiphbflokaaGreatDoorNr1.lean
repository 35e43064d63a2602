/- The stamps that a change names: three that stay. -/
import Derived.Test.YtkfkpiphbflokaaGreatDoorNa
namespace Go.Proofs.YtkfkpiphbflokaaGreatDoor
open Go Go.Eng
set_option maxRecDepth 100000 in
theorem names3 : descs3.all namesAt = true := by kernel_rfl
end Go.Proofs.YtkfkpiphbflokaaGreatDoor
