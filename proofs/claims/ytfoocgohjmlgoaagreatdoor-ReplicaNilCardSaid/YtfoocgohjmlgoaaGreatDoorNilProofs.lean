/- The row of topiarylaw21.ReplicaNil: whatever the act and whatever else is told, the law returns true, and its arguments read as they did. -/
import Derived.Test.YtfoocgohjmlgoaaGreatDoorNilLifted
import Derived.Test.YtfoocgohjmlgoaaGreatDoorNilFacts
namespace Go.Proofs.YtfoocgohjmlgoaaGreatDoor
open Go

theorem nil_named : Tryz.pinned.checked.prog.funcNamed Rows.replicaNilRow.func = some 3 := by kernel_rfl
theorem replicaNil_holds : Rows.ReplicaNilSaid :=
  OpenClaim.holds_of_wide 3 Tryz.f3 rfl rfl rfl rfl rfl rfl rfl ⟨rfl, rfl, rfl, rfl, rfl⟩ rfl rfl rfl rfl rfl nil_named Tryz.func3 nil_facts
    (of_decide_eq_true (by kernel_rfl)) (by unfold Func.isWrapper; first | (rw [if_pos (by decide +kernel)]; kernel_rfl) | (rw [if_neg (by decide +kernel)]; exact ⟨rfl, rfl⟩))
    (fun os started H enc _ => replicaNil_lifted os started H enc)
#print axioms replicaNil_holds
end Go.Proofs.YtfoocgohjmlgoaaGreatDoor
