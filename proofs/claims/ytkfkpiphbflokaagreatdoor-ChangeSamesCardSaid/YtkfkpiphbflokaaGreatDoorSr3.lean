/- topiarylaw05.ChangeSames under tables: one stamp that stays, or none. -/
import Derived.Test.YtkfkpiphbflokaaGreatDoorSs
namespace Go.Proofs.YtkfkpiphbflokaaGreatDoor
open Go Go.Eng
set_option maxRecDepth 100000 in
theorem sames1 : descs1.all samesAt = true := by kernel_rfl
set_option maxRecDepth 100000 in
theorem sames0 : descs0.all samesAt = true := by kernel_rfl
end Go.Proofs.YtkfkpiphbflokaaGreatDoor
