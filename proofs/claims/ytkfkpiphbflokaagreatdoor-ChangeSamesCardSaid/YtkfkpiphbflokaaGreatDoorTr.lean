/- The functions on one change, or on stamps, as decision trees: found by a program (mkgen.py), checked by the kernel's run. -/
import Derived.Test.YtkfkpiphbflokaaGreatDoorChecked
import Derived.Test.YtkfkpiphbflokaaGreatDoorEL
namespace Go.Proofs.YtkfkpiphbflokaaGreatDoor
open Go Go.Eng
def sy (i : Nat) : Value := .chan (some (2 * i + 1))
def ps (i : Nat) : Value := .chan (some (4 * i + 2))
def stp (i : Nat) : Value := .agg #[sy i, sy (i+1)]
def zst : Value := .agg #[.int .i64 0, .int .i64 0]
def one : Value := .agg #[.int .i64 0, .int .i64 1]
def chg : Value := .agg #[sy 0, sy 1, sy 2, sy 3, sy 4, sy 5, sy 6, sy 7, sy 8, sy 9, sy 10, sy 11, sy 12]
def q0 : Qs := { bins := [], calls := [], fixB := [], fixC := [], fixU := [], exts := [] }
def qRight : Qs := { q0 with bins := [(⟨.geq, 3, sy 0, .int .i64 1⟩, 0, true), (⟨.leq, 3, sy 0, .int .i64 1099511627776⟩, 1, true), (⟨.geq, 3, sy 1, .int .i64 0⟩, 2, true), (⟨.lss, 3, sy 1, .int .i64 64⟩, 3, true)] }
def qCmp : Qs := { q0 with bins := [(⟨.eql, 23, stp 0, stp 2⟩, 0, true), (⟨.lss, 3, sy 0, sy 2⟩, 1, true), (⟨.eql, 3, sy 0, sy 2⟩, 2, true), (⟨.lss, 3, sy 1, sy 3⟩, 3, true)] }
def qNode : Qs := { q0 with bins := [(⟨.eql, 23, stp 0, zst⟩, 1, true), (⟨.eql, 23, stp 0, one⟩, 2, true), (⟨.eql, 3, sy 0, .int .i64 0⟩, 3, true), (⟨.eql, 3, sy 1, .int .i64 0⟩, 4, true), (⟨.eql, 3, sy 1, .int .i64 1⟩, 5, true)], calls := [(16, [stp 0], 0), (22, [stp 0], 0)] }
def qNo : Qs := { q0 with bins := [(⟨.eql, 3, sy 4, .int .i64 1⟩, 0, true), (⟨.neq, 3, sy 4, .int .i64 1⟩, 0, false), (⟨.eql, 3, sy 4, .int .i64 2⟩, 1, true), (⟨.neq, 3, sy 4, .int .i64 2⟩, 1, false), (⟨.gtr, 3, sy 4, .int .i64 2⟩, 12, true), (⟨.eql, 23, stp 5, stp 0⟩, 2, true), (⟨.neq, 23, stp 5, stp 0⟩, 2, false), (⟨.eql, 23, stp 5, zst⟩, 3, true), (⟨.neq, 23, stp 5, zst⟩, 3, false), (⟨.eql, 23, stp 7, zst⟩, 6, true), (⟨.eql, 23, stp 9, zst⟩, 7, true), (⟨.eql, 23, stp 7, stp 5⟩, 10, true), (⟨.neq, 23, stp 7, stp 5⟩, 10, false)], calls := [(16, [stp 5], 4), (32, [stp 5, stp 0], 5), (38, [stp 7], 8), (41, [stp 7], 8), (32, [stp 7, stp 0], 9), (9, [stp 7, stp 0], 9), (16, [stp 9], 11), (32, [stp 9, stp 0], 13), (40, [stp 5, stp 0], 14), (40, [stp 9, stp 0], 15)] }
def qAhead : Qs := { q0 with calls := [(22, [stp 0], 0), (9, [stp 0, stp 2], 1)] }
def qLess : Qs := { q0 with bins := [(⟨.lss, 3, sy 4, .int .i64 0⟩, 0, true)], fixC := [(52, [stp 0, stp 2], sy 4)] }
def qWords : Qs := { q0 with bins := [(⟨.eql, 3, sy 4, .int .i64 1⟩, 0, true), (⟨.eql, 3, sy 4, .int .i64 3⟩, 1, true), (⟨.eql, 3, sy 4, .int .i64 4⟩, 2, true), (⟨.eql, 3, sy 4, .int .i64 5⟩, 3, true), (⟨.neq, 9, sy 11, .string .empty⟩, 5, true), (⟨.gtr, 3, sy 13, .int .i64 256⟩, 6, true), (⟨.neq, 9, sy 12, .string .empty⟩, 7, true)], calls := [(39, [sy 11], 4)], fixU := [((.len 9, [sy 12]), sy 13)] }
def qCheck : Qs := { q0 with bins := [(⟨.lss, 3, sy 4, .int .i64 1⟩, 0, true), (⟨.gtr, 3, sy 4, .int .i64 5⟩, 1, true), (⟨.lss, 3, sy 2, .int .i64 1⟩, 3, true), (⟨.gtr, 3, sy 2, sy 0⟩, 4, true), (⟨.neq, 29, sy 13, .int .i64 0⟩, 5, true)], calls := [(16, [stp 0], 2), (19, [chg], 6), (20, [chg], 7)], fixC := [(18, [chg], sy 13), (21, [chg], sy 14)] }
def qRCheck : Qs := { q0 with bins := [(⟨.lss, 3, sy 4, .int .i64 1⟩, 0, true), (⟨.gtr, 3, sy 4, .int .i64 5⟩, 1, true), (⟨.lss, 3, sy 2, .int .i64 1⟩, 3, true), (⟨.gtr, 3, sy 2, sy 0⟩, 4, true), (⟨.neq, 29, sy 13, .int .i64 0⟩, 5, true), (⟨.neq, 3, sy 15, sy 14⟩, 6, true), (⟨.neq, 3, sy 16, sy 17⟩, 7, true), (⟨.eql, 3, sy 4, .int .i64 1⟩, 9, true), (⟨.eql, 3, sy 4, .int .i64 3⟩, 10, true), (⟨.neq, 3, sy 4, .int .i64 3⟩, 10, false), (⟨.eql, 3, sy 4, .int .i64 4⟩, 11, true), (⟨.neq, 3, sy 4, .int .i64 5⟩, 12, false), (⟨.neq, 9, sy 11, .string .empty⟩, 14, true), (⟨.gtr, 3, sy 18, .int .i64 256⟩, 15, true), (⟨.neq, 9, sy 12, .string .empty⟩, 16, true)], calls := [(22, [stp 0], 2), (26, [chg], 8), (27, [sy 11], 13)], fixC := [(23, [sy 3], sy 13), (24, [sy 3], ps 0), (25, [sy 3, sy 1], sy 16)], fixB := [(⟨.sub, 3, sy 2, .int .i64 1⟩, sy 17)], fixU := [((.len 24, [sy 3]), sy 14), ((.len 24, [ps 0]), sy 15), ((.len 9, [sy 12]), sy 18)] }
def qSame : Qs := { q0 with bins := [(⟨.eql, 23, stp 0, stp 13⟩, 0, true), (⟨.eql, 3, sy 2, sy 15⟩, 1, true), (⟨.eql, 3, sy 4, sy 17⟩, 3, true), (⟨.eql, 23, stp 5, stp 18⟩, 4, true), (⟨.eql, 23, stp 7, stp 20⟩, 5, true), (⟨.eql, 23, stp 9, stp 22⟩, 6, true), (⟨.eql, 9, sy 11, sy 24⟩, 7, true), (⟨.eql, 9, sy 12, sy 25⟩, 8, true)], calls := [(30, [sy 3, sy 16], 2), (31, [sy 3, sy 16], 2)] }
def chgB : Value := .agg #[sy 13, sy 14, sy 15, sy 16, sy 17, sy 18, sy 19, sy 20, sy 21, sy 22, sy 23, sy 24, sy 25]
def qDeps0 : Qs := { q0 with bins := [(⟨.neq, 29, sy 13, .int .i64 0⟩, 0, true), (⟨.neq, 3, sy 18, sy 19⟩, 2, true)], fixC := [(36, [sy 3], sy 13), (37, [sy 3, sy 1], sy 18)], fixB := [(⟨.sub, 3, sy 2, .int .i64 1⟩, sy 19)], fixU := [((.len 24, [sy 3]), .int .i64 0)] }
def qDeps1 : Qs := { q0 with bins := [(⟨.neq, 29, sy 13, .int .i64 0⟩, 0, true), (⟨.eql, 3, sy 17, .int .i64 0⟩, 1, true), (⟨.neq, 3, sy 18, sy 19⟩, 2, true)], fixC := [(36, [sy 3], sy 13), (37, [sy 3, sy 1], sy 18)], fixB := [(⟨.sub, 3, sy 2, .int .i64 1⟩, sy 19), (⟨.gtr, 3, sy 14, .int .i64 0⟩, .bool true), (⟨.sub, 3, sy 14, .int .i64 1⟩, sy 15)], fixU := [((.len 24, [sy 3]), sy 14), ((.at 24, [sy 3, sy 15]), sy 16), ((.load 3, [sy 16]), sy 17)] }
def right_tree : DT := .ask 0 (.leaf (.bool false)) (.ask 1 (.leaf (.bool false)) (.ask 2 (.leaf (.bool false)) (.ask 3 (.leaf (.bool false)) (.leaf (.bool true)))))
def rRight_tree : DT := .ask 0 (.leaf (.bool false)) (.ask 1 (.leaf (.bool false)) (.ask 2 (.leaf (.bool false)) (.ask 3 (.leaf (.bool false)) (.leaf (.bool true)))))
def cmp_tree : DT := .ask 0 (.ask 1 (.ask 2 (.leaf (.int .i64 1)) (.ask 3 (.leaf (.int .i64 1)) (.leaf (.int .i64 (-1))))) (.leaf (.int .i64 (-1)))) (.leaf (.int .i64 0))
def rLess_tree : DT := .ask 1 (.ask 2 (.leaf (.bool false)) (.ask 3 (.leaf (.bool false)) (.leaf (.bool true)))) (.leaf (.bool true))
def less_tree : DT := .ask 0 (.leaf (.bool false)) (.leaf (.bool true))
def nodeI_tree : DT := .ask 0 (.ask 1 (.ask 2 (.leaf (.bool false)) (.leaf (.bool true))) (.leaf (.bool true))) (.leaf (.bool true))
def rNodeI_tree : DT := .ask 0 (.ask 3 (.leaf (.bool false)) (.ask 4 (.ask 5 (.leaf (.bool false)) (.leaf (.bool true))) (.leaf (.bool true)))) (.leaf (.bool true))
def ahead_tree : DT := .ask 0 (.leaf (.bool false)) (.ask 1 (.leaf (.bool false)) (.leaf (.bool true)))
def node_tree : DT := .ask 0 (.ask 1 (.ask 3 (.ask 4 (.leaf (.bool false)) (.ask 5 (.leaf (.bool false)) (.leaf (.bool true)))) (.leaf (.bool true))) (.ask 4 (.leaf (.bool false)) (.ask 5 (.leaf (.bool false)) (.leaf (.bool true))))) (.ask 2 (.leaf (.bool false)) (.leaf (.bool true)))
def place_tree : DT := .ask 0 (.ask 1 (.ask 6 (.leaf (.bool false)) (.ask 7 (.leaf (.bool false)) (.leaf (.bool true)))) (.ask 8 (.leaf (.bool false)) (.ask 9 (.leaf (.bool false)) (.ask 10 (.ask 7 (.ask 11 (.leaf (.bool false)) (.ask 13 (.leaf (.bool false)) (.leaf (.bool true)))) (.leaf (.bool true))) (.leaf (.bool false)))))) (.ask 8 (.leaf (.bool false)) (.ask 9 (.leaf (.bool false)) (.ask 10 (.ask 7 (.ask 11 (.leaf (.bool false)) (.ask 13 (.leaf (.bool false)) (.leaf (.bool true)))) (.leaf (.bool true))) (.leaf (.bool false)))))
def placed_tree : DT := .ask 0 (.ask 1 (.ask 12 (.ask 8 (.leaf (.bool false)) (.ask 9 (.leaf (.bool false)) (.ask 10 (.ask 7 (.ask 15 (.leaf (.bool false)) (.leaf (.bool true))) (.leaf (.bool true))) (.leaf (.bool false))))) (.ask 3 (.ask 14 (.leaf (.bool false)) (.ask 6 (.leaf (.bool false)) (.ask 7 (.leaf (.bool false)) (.leaf (.bool true))))) (.ask 6 (.leaf (.bool false)) (.ask 7 (.leaf (.bool false)) (.leaf (.bool true)))))) (.ask 14 (.leaf (.bool false)) (.ask 12 (.ask 8 (.leaf (.bool false)) (.ask 9 (.leaf (.bool false)) (.ask 10 (.ask 7 (.ask 15 (.leaf (.bool false)) (.leaf (.bool true))) (.leaf (.bool true))) (.leaf (.bool false))))) (.ask 3 (.ask 6 (.leaf (.bool false)) (.ask 7 (.leaf (.bool false)) (.leaf (.bool true)))) (.ask 6 (.leaf (.bool false)) (.ask 7 (.leaf (.bool false)) (.leaf (.bool true)))))))) (.ask 2 (.leaf (.bool false)) (.ask 1 (.ask 12 (.ask 8 (.leaf (.bool false)) (.ask 9 (.leaf (.bool false)) (.ask 10 (.ask 7 (.ask 15 (.leaf (.bool false)) (.leaf (.bool true))) (.leaf (.bool true))) (.leaf (.bool false))))) (.ask 3 (.ask 14 (.leaf (.bool false)) (.ask 6 (.leaf (.bool false)) (.ask 7 (.leaf (.bool false)) (.leaf (.bool true))))) (.ask 6 (.leaf (.bool false)) (.ask 7 (.leaf (.bool false)) (.leaf (.bool true)))))) (.ask 14 (.leaf (.bool false)) (.ask 12 (.ask 8 (.leaf (.bool false)) (.ask 9 (.leaf (.bool false)) (.ask 10 (.ask 7 (.ask 15 (.leaf (.bool false)) (.leaf (.bool true))) (.leaf (.bool true))) (.leaf (.bool false))))) (.ask 3 (.ask 6 (.leaf (.bool false)) (.ask 7 (.leaf (.bool false)) (.leaf (.bool true)))) (.ask 6 (.leaf (.bool false)) (.ask 7 (.leaf (.bool false)) (.leaf (.bool true)))))))))
def words_tree : DT := .ask 1 (.ask 0 (.ask 2 (.ask 3 (.ask 5 (.ask 6 (.ask 7 (.leaf (.int .i64 0)) (.leaf (.int .i64 2))) (.leaf (.int .i64 3))) (.leaf (.int .i64 8))) (.ask 5 (.ask 6 (.leaf (.int .i64 0)) (.leaf (.int .i64 3))) (.leaf (.int .i64 8)))) (.ask 4 (.leaf (.int .i64 8)) (.ask 6 (.ask 7 (.leaf (.int .i64 0)) (.leaf (.int .i64 2))) (.leaf (.int .i64 3))))) (.ask 4 (.leaf (.int .i64 8)) (.ask 6 (.ask 7 (.leaf (.int .i64 0)) (.leaf (.int .i64 2))) (.leaf (.int .i64 3))))) (.ask 4 (.leaf (.int .i64 8)) (.ask 6 (.leaf (.int .i64 0)) (.leaf (.int .i64 3))))
def check_tree : DT := .ask 0 (.ask 1 (.ask 2 (.leaf (.int .i64 2)) (.ask 3 (.ask 4 (.ask 5 (.ask 6 (.leaf (.int .i64 2)) (.ask 7 (.leaf (.int .i64 2)) (.leaf ((sy 14))))) (.leaf ((sy 13)))) (.leaf (.int .i64 1))) (.leaf (.int .i64 1)))) (.leaf (.int .i64 1))) (.leaf (.int .i64 1))
def rCheck_tree : DT := .ask 0 (.ask 1 (.ask 2 (.leaf (.int .i64 2)) (.ask 3 (.ask 4 (.ask 5 (.ask 6 (.ask 7 (.ask 8 (.leaf (.int .i64 2)) (.ask 9 (.ask 10 (.ask 11 (.ask 14 (.ask 15 (.ask 12 (.ask 16 (.leaf (.int .i64 0)) (.leaf (.int .i64 2))) (.leaf (.int .i64 0))) (.leaf (.int .i64 3))) (.leaf (.int .i64 8))) (.ask 13 (.leaf (.int .i64 8)) (.ask 15 (.ask 12 (.ask 16 (.leaf (.int .i64 0)) (.leaf (.int .i64 2))) (.leaf (.int .i64 0))) (.leaf (.int .i64 3))))) (.ask 13 (.leaf (.int .i64 8)) (.ask 15 (.leaf (.int .i64 0)) (.leaf (.int .i64 3))))) (.ask 13 (.leaf (.int .i64 8)) (.ask 15 (.ask 10 (.ask 12 (.ask 16 (.leaf (.int .i64 0)) (.leaf (.int .i64 2))) (.leaf (.int .i64 0))) (.leaf (.int .i64 0))) (.leaf (.int .i64 3)))))) (.leaf (.int .i64 2))) (.leaf (.int .i64 2))) (.leaf ((sy 13)))) (.leaf (.int .i64 1))) (.leaf (.int .i64 1)))) (.leaf (.int .i64 1))) (.leaf (.int .i64 1))
def same_tree : DT := .ask 0 (.leaf (.bool false)) (.ask 1 (.leaf (.bool false)) (.ask 2 (.leaf (.bool false)) (.ask 3 (.leaf (.bool false)) (.ask 4 (.leaf (.bool false)) (.ask 5 (.leaf (.bool false)) (.ask 6 (.leaf (.bool false)) (.ask 7 (.leaf (.bool false)) (.ask 8 (.leaf (.bool false)) (.leaf (.bool true))))))))))
def rSame_tree : DT := .ask 0 (.leaf (.bool false)) (.ask 1 (.leaf (.bool false)) (.ask 2 (.leaf (.bool false)) (.ask 3 (.leaf (.bool false)) (.ask 4 (.leaf (.bool false)) (.ask 5 (.leaf (.bool false)) (.ask 6 (.leaf (.bool false)) (.ask 7 (.leaf (.bool false)) (.ask 8 (.leaf (.bool false)) (.leaf (.bool true))))))))))
def deps0_tree : DT := .ask 0 (.ask 2 (.leaf (.int .i64 0)) (.leaf (.int .i64 2))) (.leaf ((sy 13)))
def deps1_tree : DT := .ask 0 (.ask 1 (.ask 2 (.leaf (.int .i64 0)) (.leaf (.int .i64 2))) (.leaf (.int .i64 2))) (.leaf ((sy 13)))
set_option maxRecDepth 100000 in
theorem right_run : checkT Tryz.prog qRight 30 16 [stp 0] right_tree [] = true := by kernel_rfl
set_option maxRecDepth 100000 in
theorem rRight_run : checkT Tryz.prog qRight 30 22 [stp 0] rRight_tree [] = true := by kernel_rfl
set_option maxRecDepth 100000 in
theorem cmp_run : checkT Tryz.prog qCmp 30 52 [stp 0, stp 2] cmp_tree [] = true := by kernel_rfl
set_option maxRecDepth 100000 in
theorem rLess_run : checkT Tryz.prog qCmp 30 9 [stp 0, stp 2] rLess_tree [] = true := by kernel_rfl
set_option maxRecDepth 100000 in
theorem less_run : checkT Tryz.prog qLess 30 32 [stp 0, stp 2] less_tree [] = true := by kernel_rfl
set_option maxRecDepth 100000 in
theorem nodeI_run : checkT Tryz.prog qNode 30 38 [stp 0] nodeI_tree [] = true := by kernel_rfl
set_option maxRecDepth 100000 in
theorem rNodeI_run : checkT Tryz.prog qNode 30 41 [stp 0] rNodeI_tree [] = true := by kernel_rfl
set_option maxRecDepth 100000 in
theorem ahead_run : checkT Tryz.prog qAhead 30 40 [stp 0, stp 2] ahead_tree [] = true := by kernel_rfl
set_option maxRecDepth 100000 in
theorem node_run : checkT Tryz.prog qNo 30 19 [chg] node_tree [] = true := by kernel_rfl
set_option maxRecDepth 100000 in
theorem place_run : checkT Tryz.prog qNo 30 20 [chg] place_tree [] = true := by kernel_rfl
set_option maxRecDepth 100000 in
theorem placed_run : checkT Tryz.prog qNo 30 26 [chg] placed_tree [] = true := by kernel_rfl
set_option maxRecDepth 100000 in
theorem words_run : checkT Tryz.prog qWords 30 21 [chg] words_tree [] = true := by kernel_rfl
set_option maxRecDepth 100000 in
theorem check_run : checkT Tryz.prog qCheck 30 6 [chg] check_tree [] = true := by kernel_rfl
set_option maxRecDepth 100000 in
theorem rCheck_run : checkT Tryz.prog qRCheck 30 7 [chg] rCheck_tree [] = true := by kernel_rfl
set_option maxRecDepth 100000 in
theorem same_run : checkT Tryz.prog qSame 30 10 [chg, chgB] same_tree [] = true := by kernel_rfl
set_option maxRecDepth 100000 in
theorem rSame_run : checkT Tryz.prog qSame 30 11 [chg, chgB] rSame_tree [] = true := by kernel_rfl
set_option maxRecDepth 100000 in
theorem deps0_run : checkT Tryz.prog qDeps0 30 18 [chg] deps0_tree [] = true := by kernel_rfl
set_option maxRecDepth 100000 in
theorem deps1_run : checkT Tryz.prog qDeps1 30 18 [chg] deps1_tree [] = true := by kernel_rfl
end Go.Proofs.YtkfkpiphbflokaaGreatDoor
