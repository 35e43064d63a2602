/-
  DERIVED. GIVEN WITH THE SEED: THE CARDS: each row of YtkfkpiphbflokaaGreatDoorRows.lean that lists a variable, with what it lists TIED to the program's text (the seventh form; the later family's looks); each row that meets fmt, with fmt's text TOLD by the authors' own Lean function (tested against real Go, not proved from fmt's source: count such statements apart). THE CARD IS WHAT COUNTS. Prove the row's statement (the work); the ties are given (YtkfkpiphbflokaaGreatDoorTie.lean); close each card by the builder's one call (the guide's Derived/Test/ToyasCard.lean, 'card_holds'). Laid BY PROGRAM, IN A SANDBOX (cutbox-door.mjs). By AI agents, Wed Nov 11 2026. No macro, syntax, notation, axiom, sorry.
-/
import Derived.Test.YtkfkpiphbflokaaGreatDoorRows
import GoSem.ClaimSeven
namespace Go.Proofs.YtkfkpiphbflokaaGreatDoor
namespace Rows

/-- THE TIED CARD OF 'topiarylaw05.ChangeAhead'. -/
def changeAheadCard : Claim7 := { stood := { row := changeAheadRow, standIns := [], harness := (true, "a97b639fce02808249967d8ced8a99c5f7d05d2d92ac245c7fcdc8bc65881002"), looks := true }, kinds := [], alts := [], laidByText := true, laidKinds := [.data, .data, .data, .data, .sentinel, .sentinel, .pinned], laidTests := true, laidLooks := .later }
def ChangeAheadCardSaid : Prop := Claim7.holds Tryz.pinned (.plain (OpenSpec.ofChange changeAheadSpec)) changeAheadCard

/-- THE TIED CARD OF 'topiarylaw05.ChangeSames'. -/
def changeSamesCard : Claim7 := { stood := { row := changeSamesRow, standIns := [], harness := (true, "a97b639fce02808249967d8ced8a99c5f7d05d2d92ac245c7fcdc8bc65881002"), looks := true }, kinds := [], alts := [], laidByText := true, laidKinds := [.data, .data, .data, .data, .sentinel, .sentinel, .pinned], laidTests := true, laidLooks := .later }
def ChangeSamesCardSaid : Prop := Claim7.holds Tryz.pinned (.plain (OpenSpec.ofChange changeSamesSpec)) changeSamesCard

/-- THE SECOND FORM's CARD OF 'topiarylaw05.ChangeAhead'. -/
def changeAheadUptoCard : Claim7 := { stood := { row := changeAheadUptoRow, standIns := [], harness := (true, "a97b639fce02808249967d8ced8a99c5f7d05d2d92ac245c7fcdc8bc65881002"), looks := true }, kinds := [], alts := [], laidByText := true, laidKinds := [.data, .data, .data, .data, .sentinel, .sentinel, .pinned], laidTests := true, laidLooks := .later }
def ChangeAheadUptoCardSaid : Prop := Claim7.holds Tryz.pinned (.plain (OpenSpec.upto changeAheadSpec)) changeAheadUptoCard

/-- THE SECOND FORM's CARD OF 'topiarylaw05.ChangeSames'. -/
def changeSamesUptoCard : Claim7 := { stood := { row := changeSamesUptoRow, standIns := [], harness := (true, "a97b639fce02808249967d8ced8a99c5f7d05d2d92ac245c7fcdc8bc65881002"), looks := true }, kinds := [], alts := [], laidByText := true, laidKinds := [.data, .data, .data, .data, .sentinel, .sentinel, .pinned], laidTests := true, laidLooks := .later }
def ChangeSamesUptoCardSaid : Prop := Claim7.holds Tryz.pinned (.plain (OpenSpec.upto changeSamesSpec)) changeSamesUptoCard
end Rows
end Go.Proofs.YtkfkpiphbflokaaGreatDoor
