/- The stamps that a change names, under tables: what is known of the three stamps. -/
import Derived.Test.YtkfkpiphbflokaaGreatDoorTr
import Derived.Test.YtkfkpiphbflokaaGreatDoorEM
namespace Go.Proofs.YtkfkpiphbflokaaGreatDoor
open Go Go.Eng

/-! What is known of the stamps at cells 5, 7, 9: 0: not right; 1: right, and the change's own; r + 2: right, another one, r of those are ahead of it. -/
def ent (d : List Nat) (i : Nat) : Nat := d.getD ((i - 5) / 2) 0
def bases : List Nat := [5, 7, 9]
def kept (d : List Nat) : List Nat := bases.filter fun i => Nat.ble 2 (ent d i)
def known (d : List Nat) : List Nat := bases.filter fun i => Nat.ble 1 (ent d i)
def cmpN (a b : Nat) : Int := cond (Nat.blt a b) (-1) (cond (Nat.blt b a) 1 0)
def pairs (d : List Nat) : List (Nat × Nat) := (kept d).flatMap fun i => (kept d).map fun j => (i, j)
def rightT (f : FuncId) (d : List Nat) : List (FuncId × List Value × Value) := bases.map fun i => (f, [stp i], .bool (Nat.ble 1 (ent d i)))
def cmpT (d : List Nat) : List (FuncId × List Value × Value) := (pairs d).map fun p => (52, [stp p.1, stp p.2], .int .i64 (cmpN (ent d p.1) (ent d p.2)))
def lessT (d : List Nat) : List (FuncId × List Value × Value) := (pairs d).map fun p => (9, [stp p.1, stp p.2], .bool (Nat.blt (ent d p.1) (ent d p.2)))
def ownT (d : List Nat) : List (Key × Value) := (known d).map fun i => (⟨.neq, 23, stp i, stp 0⟩, .bool (Nat.ble 2 (ent d i)))
def eqT (d : List Nat) : List (Key × Value) := (pairs d).map fun p => (⟨.eql, 23, stp p.1, stp p.2⟩, .bool (Nat.beq (ent d p.1) (ent d p.2)))
def neT (d : List Nat) : List (Key × Value) := (pairs d).map fun p => (⟨.neq, 23, stp p.1, stp p.2⟩, .bool (!(Nat.beq (ent d p.1) (ent d p.2))))
def qN (d : List Nat) : Qs := { q0 with fixC := rightT 16 d ++ cmpT d, fixB := ownT d ++ (eqT d ++ neT d), exts := [(104, .same)] }
def qR (d : List Nat) : Qs := { q0 with fixC := rightT 22 d ++ lessT d, fixB := ownT d ++ eqT d, exts := [(104, .same)] }
/-- The cells of those that stay, in order, each once. -/
def ordB (d : List Nat) : List Nat := [2, 3, 4].filterMap fun r => bases.find? fun i => Nat.beq (ent d i) r
def cellsN (d : List Nat) : List Value := (ordB d).flatMap fun i => [sy i, sy (i + 1)]
/-- All that can be known. -/
def drops : List Nat := [0, 1]
def descs3 : List (List Nat) := [[2, 2, 2], [2, 2, 4], [2, 4, 2], [4, 2, 2], [2, 3, 3], [3, 2, 3], [3, 3, 2], [2, 3, 4], [2, 4, 3], [3, 2, 4], [3, 4, 2], [4, 2, 3], [4, 3, 2]]
def two : List (Nat × Nat) := [(2, 2), (2, 3), (3, 2)]
def descs2 : List (List Nat) := two.flatMap fun p => drops.flatMap fun x => [[p.1, p.2, x], [p.1, x, p.2], [x, p.1, p.2]]
def descs1 : List (List Nat) := drops.flatMap fun x => drops.flatMap fun y => [[2, x, y], [x, 2, y], [x, y, 2]]
def descs0 : List (List Nat) := drops.flatMap fun x => drops.flatMap fun y => drops.map fun z => [x, y, z]
noncomputable def namesAt (d : List Nat) : Bool := sliceIs ((qN d).run Tryz.prog [] 60 5 [chg]) (cellsN d) (ordB d).length
noncomputable def rNamesAt (d : List Nat) : Bool := sliceIs ((qR d).run Tryz.prog [] 60 15 [chg]) (cellsN d) (ordB d).length
end Go.Proofs.YtkfkpiphbflokaaGreatDoor
