/- The stamps that a change names: two that stay. -/
import Derived.Test.YtkfkpiphbflokaaGreatDoorNa
namespace Go.Proofs.YtkfkpiphbflokaaGreatDoor
open Go Go.Eng
set_option maxRecDepth 100000 in
theorem names2 : descs2.all namesAt = true := by kernel_rfl
end Go.Proofs.YtkfkpiphbflokaaGreatDoor
