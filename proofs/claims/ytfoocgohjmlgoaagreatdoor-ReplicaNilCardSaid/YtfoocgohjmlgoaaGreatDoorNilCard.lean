/- The tied card of topiarylaw21.ReplicaNil: whatever the act and whatever else is told, the law returns true, and its arguments read as they did; the listed tables are tied to the program's text. -/
import Derived.Test.YtfoocgohjmlgoaaGreatDoorCards
import Derived.Test.YtfoocgohjmlgoaaGreatDoorTie
import Derived.Test.YtfoocgohjmlgoaaGreatDoorNilProofs
import Derived.Test.YtfoocgohjmlgoaaGreatDoorNilFactE
import Derived.Test.YtfoocgohjmlgoaaGreatDoorNilFactF
import Derived.Test.YtfoocgohjmlgoaaGreatDoorNilFactG
import Derived.SevenTiedAt
namespace Go.Proofs.YtfoocgohjmlgoaaGreatDoor
open Go

theorem replicaNilCard_holds : Rows.ReplicaNilCardSaid :=
  Claim7.holds_tied_plain_at .later [] [.data, .data, .data] true (true, "91f4f5e8a2b8516f82b50c18689f1edfa561769ff45fec8fe61378cd191e3dd0") false
    replicaNil_holds (fun _ h => by cases h) (by kernel_rfl) (fun _ h => by cases h) replicaNil_row_tie rfl ⟨rfl, rfl⟩ nil_main rfl
    (fun f fn hf hfn => by
      obtain rfl : f = 3 := Option.some.inj ((show Tryz.prog.funcNamed "topiary/topiarylaw21.ReplicaNil" = some 3 by kernel_rfl).symm.trans hf) |>.symm
      obtain rfl : fn = Tryz.f3 := (Option.some.inj (Tryz.func3.symm.trans hfn)).symm
      exact ⟨nil_looks, fun j t ht => by
        rw [Tryz.params3] at ht
        have hm : t ∈ [26, 29] := by simpa using Array.mem_of_getElem? ht
        have hall : ([26, 29].all fun u => !Tryz.prog.wantsStandIn u) = true := by kernel_rfl
        exact (show Tryz.prog.wantsStandIn t = false by simpa using List.all_eq_true.1 hall t hm)⟩)
    nil_goes
#print axioms replicaNilCard_holds
end Go.Proofs.YtfoocgohjmlgoaaGreatDoor
