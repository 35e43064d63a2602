/- topiarylaw05.ChangeSames under tables: whatever is known of the three stamps, it answers true. -/
import Derived.Test.YtkfkpiphbflokaaGreatDoorNa
namespace Go.Proofs.YtkfkpiphbflokaaGreatDoor
open Go Go.Eng

/-- The change with another row for its clock. -/
def chgW (v : Value) : Value := .agg #[sy 0, sy 1, sy 2, v, sy 4, sy 5, sy 6, sy 7, sy 8, sy 9, sy 10, sy 11, sy 12]
def rowOf (n : Nat) : Value := .chan (some (4 * n + 4))
def copyH : List Value → Heap → Option (Value × Heap)
  | [x], H => cond (sameV x chg) (some (chgW (rowOf H.next), H.new (.opq 0))) none
  | _, _ => none
def isRow0 (H : Heap) (n : Nat) : Bool :=
  match H.get n with
  | .opq 0 => true
  | _ => false
/-- Which row a value is. -/
def rowNo : Value → Option Nat
  | .agg c => (match c.toList with
    | [_, _, _, .chan (some (n + 4)), _, _, _, _, _, _, _, _, _] => some (n / 4)
    | _ => none)
  | _ => none
def sameH : List Value → Heap → Option (Value × Heap)
  | [x, y], H => cond (sameV x chg) (cond (sameV y chgB) (some (sy 26, H)) (match rowNo y with
    | some n => cond (sameV y (chgW (rowOf n)) && isRow0 H n) (some (.bool true, H)) none
    | none => none)) none
  | _, _ => none
def qS (d : List Nat) : Qs := { q0 with fixC := (8, [], .bool true) :: (11, [chg, chgB], sy 26) :: (13, [chg, chgB], sy 27) :: (9, [stp 0, stp 13], sy 27) :: (rightT 16 d ++ (rightT 22 d ++ (cmpT d ++ lessT d))), fixB := (⟨.eql, 4, sy 26, sy 26⟩, .bool true) :: (⟨.eql, 4, sy 27, sy 27⟩, .bool true) :: (ownT d ++ (eqT d ++ neT d)), exts := [(104, .same), (12, .hookH copyH), (10, .hookH sameH)] }
noncomputable def samesAt (d : List Nat) : Bool := checkT Tryz.prog (qS d) 60 4 [chg, chgB] (.leaf (.bool true)) []
end Go.Proofs.YtkfkpiphbflokaaGreatDoor
