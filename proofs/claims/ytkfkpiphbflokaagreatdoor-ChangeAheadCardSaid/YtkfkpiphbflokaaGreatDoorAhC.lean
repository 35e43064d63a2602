/- The tied card of topiarylaw05.ChangeAhead: whatever the change, the law returns true, and the change reads as it did; the listed tables are tied to the program's text. -/
import Derived.Test.YtkfkpiphbflokaaGreatDoorCards
import Derived.Test.YtkfkpiphbflokaaGreatDoorTie
import Derived.Test.YtkfkpiphbflokaaGreatDoorAhL
import Derived.SevenTiedAt
import Derived.JoinedOf
namespace Go.Proofs.YtkfkpiphbflokaaGreatDoor
open Go

set_option maxRecDepth 100000 in
theorem ah_facts : joinedFacts Tryz.pinned.checked.prog 3 Tryz.f3 Rows.changeAheadSpec Rows.changeAheadRow = true := by kernel_rfl
theorem ah_named : Tryz.pinned.checked.prog.funcNamed Rows.changeAheadRow.func = some 3 := by kernel_rfl
theorem changeAhead_holds : Rows.ChangeAheadSaid :=
  OpenClaim.holds_of_wide 3 Tryz.f3 rfl rfl rfl rfl rfl rfl rfl ⟨rfl, rfl, rfl, rfl, rfl⟩ rfl rfl rfl rfl rfl ah_named Tryz.func3 ah_facts
    (of_decide_eq_true (by kernel_rfl)) (by unfold Func.isWrapper; first | (rw [if_pos (by decide +kernel)]; kernel_rfl) | (rw [if_neg (by decide +kernel)]; exact ⟨rfl, rfl⟩))
    (fun os started H enc _ => changeAhead_lifted os started H enc)
theorem ah_main : Tryz.pinned.checked.prog.mainIs = some (true, "a97b639fce02808249967d8ced8a99c5f7d05d2d92ac245c7fcdc8bc65881002".toList) := by kernel_rfl
theorem ah_looks : true = Tryz.pinned.checked.prog.looks [] := by kernel_rfl
theorem ah_goes : false = Rows.changeAheadRow.goesBy Tryz.pinned.checked.prog := by kernel_rfl
theorem changeAheadCard_holds : Rows.ChangeAheadCardSaid :=
  Claim7.holds_tied_plain_at .later [] [.data, .data, .data, .data, .sentinel, .sentinel, .pinned] true (true, "a97b639fce02808249967d8ced8a99c5f7d05d2d92ac245c7fcdc8bc65881002") true
    changeAhead_holds (fun _ h => by cases h) (by kernel_rfl) (fun _ h => by cases h) changeAhead_row_tie rfl ⟨rfl, rfl⟩ ah_main rfl
    (fun f fn hf hfn => by
      obtain rfl : f = 3 := Option.some.inj ((show Tryz.prog.funcNamed "topiary/topiarylaw05.ChangeAhead" = some 3 by kernel_rfl).symm.trans hf) |>.symm
      obtain rfl : fn = Tryz.f3 := (Option.some.inj (Tryz.func3.symm.trans hfn)).symm
      exact ⟨ah_looks, fun j t ht => by
        rw [Tryz.params3] at ht
        have hm : t ∈ [26] := by simpa using Array.mem_of_getElem? ht
        have hall : ([26].all fun u => !Tryz.prog.wantsStandIn u) = true := by kernel_rfl
        exact (show Tryz.prog.wantsStandIn t = false by simpa using List.all_eq_true.1 hall t hm)⟩)
    ah_goes
#print axioms changeAheadCard_holds
end Go.Proofs.YtkfkpiphbflokaaGreatDoor
