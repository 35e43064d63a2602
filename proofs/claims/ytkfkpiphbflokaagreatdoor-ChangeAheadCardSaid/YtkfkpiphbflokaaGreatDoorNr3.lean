/- The stamps that a change names: one that stays, or none. -/
import Derived.Test.YtkfkpiphbflokaaGreatDoorNa
namespace Go.Proofs.YtkfkpiphbflokaaGreatDoor
open Go Go.Eng
set_option maxRecDepth 100000 in
theorem names1 : descs1.all namesAt = true := by kernel_rfl
set_option maxRecDepth 100000 in
theorem names0 : descs0.all namesAt = true := by kernel_rfl
end Go.Proofs.YtkfkpiphbflokaaGreatDoor
