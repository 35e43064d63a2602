/- topiarylaw05.ChangeAhead under tables: one stamp that stays, or none. -/
import Derived.Test.YtkfkpiphbflokaaGreatDoorLa
namespace Go.Proofs.YtkfkpiphbflokaaGreatDoor
open Go Go.Eng
set_option maxRecDepth 100000 in
theorem ok1 : descs1.all okAt = true := by kernel_rfl
set_option maxRecDepth 100000 in
theorem ok0 : descs0.all okAt = true := by kernel_rfl
end Go.Proofs.YtkfkpiphbflokaaGreatDoor
