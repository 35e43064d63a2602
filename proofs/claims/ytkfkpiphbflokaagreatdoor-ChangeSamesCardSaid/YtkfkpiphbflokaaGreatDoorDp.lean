/- What the functions on one change answer: its clock; Check. -/
import Derived.Test.YtkfkpiphbflokaaGreatDoorCh
namespace Go.Proofs.YtkfkpiphbflokaaGreatDoor
open Go Go.Eng Go.RowKit

theorem keyOK_sub [Sig] {k : Key} {m n : Int} {v : Value} (ho : k.op = .sub) (ha : inst k.a = .int .i64 m) (hb : inst k.b = .int .i64 n) (h : inst v = .int .i64 (IntKind.i64.wrap (m - n))) : KeyOK Tryz.prog k v := by
  intro x y w
  obtain ⟨op, xt, a, b'⟩ := k
  simp only at ho ha hb ⊢
  subst ho
  rw [ha, hb, h]
  simp [eqGuard, binOp, Op.intArith]

theorem at_run (b o n cap k : Nat) (w : World) (hk : k < n) : (Instr.indexAt 24 (.slice (some ⟨b, o, none⟩) n cap) (.int .i64 (k : Nat))).run Tryz.prog w = .ok (.pointer (some ⟨b, o + k, none⟩)) w := by
  have e : Tryz.prog.elem 24 = 3 := by kernel_rfl
  have h1 : (sizeOf 3).run Tryz.prog w = .ok 1 w := by
    obtain ⟨i0, hi, _, hz1, _⟩ := info_parts info3
    simp [sizeOf, typeInfo, hi, hz1]
  rw [run_indexAt_slice (P := Tryz.prog) (h := by kernel_rfl), if_pos ⟨by omega, by omega⟩, e, h1]
  simp [Addr.add]
theorem load_run (b o : Nat) (v : Value) (w : World) (h : w.cell? ⟨b, o, none⟩ = some v) : (Instr.loadAt 3 (.pointer (some ⟨b, o, none⟩))).run Tryz.prog w = .ok v w := by
  simp [go_sem, h]

/-! ### deps -/
def Chg.lastZ (c : Chg) : Bool := decide (c.l ≠ []) && (c.l.getD (c.l.length - 1) 0 == 0)
def Chg.apart (c : Chg) : Bool := atOf c.l c.own.r != IntKind.i64.wrap (c.seq - 1)
def Chg.depsI (c : Chg) : Int := cond (chk c.l != 0) (chk c.l) (cond (c.lastZ || c.apart) 2 0)
theorem deps_any (c : Chg) (w : World) (h : c.In w) : Ans Tryz.prog 18 #[c.val] (.int .i64 c.depsI) w := by
  have c36 : ∀ [Sig] (hs3 : Sig.val 3 = .slice c.A c.l.length c.cap) (hs : Sig.val 13 = .int .i64 (chk c.l)) (ho : Sig.old = w) (hl : Sig.lim = w.heap.size), CallOK Tryz.prog 36 [sy 3] (sy 13) := fun hs3 hs ho hl => CallOK.of rfl fun w' hw' => by
    show Calls Tryz.prog 36 #[Sig.val 3] w' fun e _ => e = .returned (Sig.val 13) ∧ _
    rw [hs3, hs]
    rw [ho, hl] at hw'
    exact Ans.of_same (clockCheck c.A c.l.length c.cap c.l rfl w' (h.later hw').ints h.big)
  have c37 : ∀ [Sig] (hs3 : Sig.val 3 = .slice c.A c.l.length c.cap) (hs1 : Sig.val 1 = .int .i64 c.own.r) (hs : Sig.val 18 = .int .i64 (atOf c.l c.own.r)) (ho : Sig.old = w) (hl : Sig.lim = w.heap.size), CallOK Tryz.prog 37 [sy 3, sy 1] (sy 18) := fun hs3 hs1 hs ho hl => CallOK.of rfl fun w' hw' => by
    show Calls Tryz.prog 37 #[Sig.val 3, Sig.val 1] w' fun e _ => e = .returned (Sig.val 18) ∧ _
    rw [hs3, hs1, hs]
    rw [ho, hl] at hw'
    exact Ans.of_same (clockAt c.A c.l.length c.cap c.l c.own.r rfl w' (h.later hw').ints)
  by_cases he : c.l = []
  · letI : Sig := sigC c [.int .i64 (chk c.l), .int .i64 0, .bool false, .bool false, .bool false, .int .i64 (atOf c.l c.own.r), .int .i64 (IntKind.i64.wrap (c.seq - 1))] rfl w
    have ok : QsOK Tryz.prog qDeps0 (fun i => [chk c.l != 0, false, c.apart].getD i false) := ⟨allOf_mem ⟨⟨rfl, keyOK_int rfl rfl rfl rfl⟩, ⟨rfl, keyOK_int rfl rfl rfl rfl⟩, trivial⟩, nil_all, allOf_mem ⟨⟨rfl, rfl, keyOK_sub rfl rfl rfl rfl⟩, trivial⟩,
      allOf_mem ⟨⟨rfl, ⟨_, Tryz.func36, by kernel_rfl, by kernel_rfl⟩, c36 rfl rfl rfl rfl⟩, ⟨rfl, ⟨_, Tryz.func37, by kernel_rfl, by kernel_rfl⟩, c37 rfl rfl rfl rfl rfl⟩, trivial⟩,
      allOf_mem ⟨⟨rfl, ukey_len_slice (n := 0) (e := 3) rfl Tryz.underlying24 (fun φ x' hr => ⟨c.A, c.cap, by rw [inst_eq hr rfl]; show Value.slice c.A c.l.length c.cap = _; rw [he]; rfl⟩) rfl⟩, trivial⟩, noExts⟩
    have k := tree_calls ok mixed Tryz.func18 (args := [chg]) rfl (fun _ => rfl) w (.refl _ w) (Nat.le_refl _) (t := deps0_tree) (acc := []) rfl (fun _ _ h => by cases h) deps0_run
    have e : inst (deps0_tree.eval fun i => [chk c.l != 0, false, c.apart].getD i false) = .int .i64 c.depsI := by
      have hz : c.lastZ = false := by unfold Chg.lastZ; rw [he]; rfl
      simp only [deps0_tree, DT.eval, List.getD_cons_zero, List.getD_cons_succ, Chg.depsI, hz]
      cases (chk c.l != 0) <;> cases c.apart <;> rfl
    rw [e] at k
    exact k
  · have hpos : 0 < c.l.length := by cases hl : c.l with | nil => exact absurd hl he | cons x xs => simp
    obtain ⟨b, o, hA, hc⟩ := h.ints (c.l.length - 1) (by omega)
    have hbig := h.big
    letI : Sig := sigC c [.int .i64 (chk c.l), .int .i64 c.l.length, .int .i64 (c.l.length - 1 : Nat), .pointer (some ⟨b, o + (c.l.length - 1), none⟩), .int .i64 (c.l.getD (c.l.length - 1) 0), .int .i64 (atOf c.l c.own.r), .int .i64 (IntKind.i64.wrap (c.seq - 1))] rfl w
    have hw : IntKind.i64.wrap ((c.l.length : Int) - 1) = ((c.l.length - 1 : Nat) : Int) := by
      have := IntWalk.i64_in ((c.l.length : Int) - 1) (by omega)
      rw [this]; omega
    have ok : QsOK Tryz.prog qDeps1 (fun i => [chk c.l != 0, c.l.getD (c.l.length - 1) 0 == 0, c.apart].getD i false) := ⟨allOf_mem ⟨⟨rfl, keyOK_int rfl rfl rfl rfl⟩, ⟨rfl, keyOK_int rfl rfl rfl rfl⟩, ⟨rfl, keyOK_int rfl rfl rfl rfl⟩, trivial⟩, nil_all,
      allOf_mem ⟨⟨rfl, rfl, keyOK_sub rfl rfl rfl rfl⟩, ⟨rfl, rfl, keyOK_int (j := .i64) (m := c.l.length) (n := 0) rfl rfl rfl (by show decide ((c.l.length : Int) > 0) = true; exact decide_eq_true (by omega))⟩, ⟨rfl, rfl, keyOK_sub (m := c.l.length) (n := 1) rfl rfl rfl (by rw [hw]; rfl)⟩, trivial⟩,
      allOf_mem ⟨⟨rfl, ⟨_, Tryz.func36, by kernel_rfl, by kernel_rfl⟩, c36 rfl rfl rfl rfl⟩, ⟨rfl, ⟨_, Tryz.func37, by kernel_rfl, by kernel_rfl⟩, c37 rfl rfl rfl rfl rfl⟩, trivial⟩,
      allOf_mem ⟨⟨rfl, ukey_len_slice (n := c.l.length) (e := 3) rfl Tryz.underlying24 (fun φ x' hr => ⟨c.A, c.cap, by rw [inst_eq hr rfl]; rfl⟩) rfl⟩,
        ⟨rfl, ukey_at (x := sy 3) (i := sy 15) rfl rfl rfl fun w' => by
          have := at_run b o c.l.length c.cap (c.l.length - 1) w' (by omega)
          rw [← hA] at this
          exact this⟩,
        ⟨rfl, ukey_load (x := sy 16) (v := sy 17) rfl rfl fun w' hw' => load_run b (o + (c.l.length - 1)) (.int .i64 (c.l.getD (c.l.length - 1) 0)) w' ((Below.cell (w := w) (p := ⟨b, o + (c.l.length - 1), none⟩) hw' (World.block_lt_of_cell? w _ hc)).trans hc)⟩, trivial⟩, noExts⟩
    have k := tree_calls ok mixed Tryz.func18 (args := [chg]) rfl (fun _ => rfl) w (.refl _ w) (Nat.le_refl _) (t := deps1_tree) (acc := []) rfl (fun _ _ h => by cases h) deps1_run
    have e : inst (deps1_tree.eval fun i => [chk c.l != 0, c.l.getD (c.l.length - 1) 0 == 0, c.apart].getD i false) = .int .i64 c.depsI := by
      have hz : c.lastZ = (c.l.getD (c.l.length - 1) 0 == 0) := by unfold Chg.lastZ; simp [he]
      simp only [deps1_tree, DT.eval, List.getD_cons_zero, List.getD_cons_succ, Chg.depsI, hz]
      cases (chk c.l != 0) <;> cases (c.l.getD (c.l.length - 1) 0 == 0) <;> cases c.apart <;> rfl
    rw [e] at k
    exact k
end Go.Proofs.YtkfkpiphbflokaaGreatDoor
