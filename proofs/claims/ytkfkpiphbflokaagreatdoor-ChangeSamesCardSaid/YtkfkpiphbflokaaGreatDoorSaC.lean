/- The tied card of topiarylaw05.ChangeSames: whatever the two changes, the law returns true, and the two read as they did; the listed tables are tied to the program's text. -/
import Derived.Test.YtkfkpiphbflokaaGreatDoorCards
import Derived.Test.YtkfkpiphbflokaaGreatDoorTie
import Derived.Test.YtkfkpiphbflokaaGreatDoorSaL
import Derived.SevenTiedAt
import Derived.JoinedOf
namespace Go.Proofs.YtkfkpiphbflokaaGreatDoor
open Go

set_option maxRecDepth 100000 in
theorem sa_facts : joinedFacts Tryz.pinned.checked.prog 4 Tryz.f4 Rows.changeSamesSpec Rows.changeSamesRow = true := by kernel_rfl
theorem sa_named : Tryz.pinned.checked.prog.funcNamed Rows.changeSamesRow.func = some 4 := by kernel_rfl
theorem changeSames_holds : Rows.ChangeSamesSaid :=
  OpenClaim.holds_of_wide 4 Tryz.f4 rfl rfl rfl rfl rfl rfl rfl ⟨rfl, rfl, rfl, rfl, rfl⟩ rfl rfl rfl rfl rfl sa_named Tryz.func4 sa_facts
    (of_decide_eq_true (by kernel_rfl)) (by unfold Func.isWrapper; first | (rw [if_pos (by decide +kernel)]; kernel_rfl) | (rw [if_neg (by decide +kernel)]; exact ⟨rfl, rfl⟩))
    (fun os started H enc _ => changeSames_lifted os started H enc)
theorem sa_main : Tryz.pinned.checked.prog.mainIs = some (true, "a97b639fce02808249967d8ced8a99c5f7d05d2d92ac245c7fcdc8bc65881002".toList) := by kernel_rfl
theorem sa_looks : true = Tryz.pinned.checked.prog.looks [] := by kernel_rfl
theorem sa_goes : false = Rows.changeSamesRow.goesBy Tryz.pinned.checked.prog := by kernel_rfl
theorem changeSamesCard_holds : Rows.ChangeSamesCardSaid :=
  Claim7.holds_tied_plain_at .later [] [.data, .data, .data, .data, .sentinel, .sentinel, .pinned] true (true, "a97b639fce02808249967d8ced8a99c5f7d05d2d92ac245c7fcdc8bc65881002") true
    changeSames_holds (fun _ h => by cases h) (by kernel_rfl) (fun _ h => by cases h) changeSames_row_tie rfl ⟨rfl, rfl⟩ sa_main rfl
    (fun f fn hf hfn => by
      obtain rfl : f = 4 := Option.some.inj ((show Tryz.prog.funcNamed "topiary/topiarylaw05.ChangeSames" = some 4 by kernel_rfl).symm.trans hf) |>.symm
      obtain rfl : fn = Tryz.f4 := (Option.some.inj (Tryz.func4.symm.trans hfn)).symm
      exact ⟨sa_looks, fun j t ht => by
        rw [Tryz.params4] at ht
        have hm : t ∈ [26] := by simpa using Array.mem_of_getElem? ht
        have hall : ([26].all fun u => !Tryz.prog.wantsStandIn u) = true := by kernel_rfl
        exact (show Tryz.prog.wantsStandIn t = false by simpa using List.all_eq_true.1 hall t hm)⟩)
    sa_goes
#print axioms changeSamesCard_holds
end Go.Proofs.YtkfkpiphbflokaaGreatDoor
