/- topiarylaw05.ChangeAhead under tables: whatever is known of the three stamps, it answers true. -/
import Derived.Test.YtkfkpiphbflokaaGreatDoorNa
namespace Go.Proofs.YtkfkpiphbflokaaGreatDoor
open Go Go.Eng
def ownLessT (d : List Nat) : List (FuncId × List Value × Value) := (kept d).map fun i => (9, [stp i, stp 0], .bool true)
/-- Where the change is right. -/
def qOk (d : List Nat) : Qs := { q0 with fixC := (8, [], .bool true) :: (6, [chg], .int .i64 0) :: (rightT 16 d ++ (cmpT d ++ (ownLessT d ++ lessT d))), fixB := ownT d ++ (eqT d ++ neT d), exts := [(104, .same)] }
/-- Where it is not. -/
def qBad : Qs := { q0 with fixC := [(8, [], .bool true), (5, [chg], ps 0), (6, [chg], sy 13), (7, [chg], sy 14)], fixB := [(⟨.neq, 29, sy 13, .int .i64 0⟩, .bool true), (⟨.neq, 29, sy 14, .int .i64 0⟩, .bool true)] }
noncomputable def okAt (d : List Nat) : Bool := checkT Tryz.prog (qOk d) 60 3 [chg] (.leaf (.bool true)) []
set_option maxRecDepth 100000 in
theorem bad_run : checkT Tryz.prog qBad 60 3 [chg] (.leaf (.bool true)) [] = true := by kernel_rfl
end Go.Proofs.YtkfkpiphbflokaaGreatDoor
