/- change.Check and the document's Check: where the document's lets a change by, the other one does. -/
import Derived.Test.YtkfkpiphbflokaaGreatDoorDp
namespace Go.Proofs.YtkfkpiphbflokaaGreatDoor
open Go Go.Eng Go.RowKit

def Chg.headB (c : Chg) : List Bool := [decide (c.kind < 1), decide (c.kind > 5), c.own.right, decide (c.seq < 1), decide (c.seq > c.own.c)]
def Chg.checkI (c : Chg) : Int := cond (decide (c.kind < 1)) 1 (cond (decide (c.kind > 5)) 1 (cond c.own.right (cond (decide (c.seq < 1)) 1 (cond (decide (c.seq > c.own.c)) 1 (cond (c.depsI != 0) c.depsI (cond c.nodeB (cond c.placeB c.wordsI 2) 2)))) 2))
theorem check_any (c : Chg) (w : World) (h : c.In w) : Ans Tryz.prog 6 #[c.val] (.int .i64 c.checkI) w := by
  letI : Sig := sigC c [.int .i64 c.depsI, .int .i64 c.wordsI] rfl w
  let β : Nat → Bool := fun i => [decide (c.kind < 1), decide (c.kind > 5), c.own.right, decide (c.seq < 1), decide (c.seq > c.own.c), c.depsI != 0, c.nodeB, c.placeB].getD i false
  have ok : QsOK Tryz.prog qCheck β := ⟨allOf_mem ⟨⟨rfl, keyOK_int rfl rfl rfl rfl⟩, ⟨rfl, keyOK_int rfl rfl rfl rfl⟩, ⟨rfl, keyOK_int rfl rfl rfl rfl⟩, ⟨rfl, keyOK_int rfl rfl rfl rfl⟩, ⟨rfl, keyOK_int rfl rfl rfl rfl⟩, trivial⟩,
    allOf_mem ⟨⟨rfl, ⟨_, Tryz.func16, by kernel_rfl, by kernel_rfl⟩, CallOK.of rfl fun w _ => right_any c.own w⟩, ⟨rfl, ⟨_, Tryz.func19, by kernel_rfl, by kernel_rfl⟩, CallOK.of rfl fun w _ => node_any c w⟩, ⟨rfl, ⟨_, Tryz.func20, by kernel_rfl, by kernel_rfl⟩, CallOK.of rfl fun w _ => place_any c w⟩, trivial⟩,
    nil_all, allOf_mem ⟨⟨rfl, ⟨_, Tryz.func18, by kernel_rfl, by kernel_rfl⟩, CallOK.of rfl fun w' hw' => deps_any c w' (h.later hw')⟩, ⟨rfl, ⟨_, Tryz.func21, by kernel_rfl, by kernel_rfl⟩, CallOK.of rfl fun w _ => words_any c w⟩, trivial⟩, nil_all, noExts⟩
  have k := tree_calls ok mixed Tryz.func6 (args := [chg]) rfl (fun _ => rfl) w (.refl _ w) (Nat.le_refl _) (t := check_tree) (acc := []) rfl (fun _ _ h => by cases h) check_run
  have e : inst (check_tree.eval β) = .int .i64 c.checkI := by
    simp only [check_tree, DT.eval, β, List.getD_cons_zero, List.getD_cons_succ, Chg.checkI]
    cases decide (c.kind < 1) <;> cases decide (c.kind > 5) <;> cases c.own.right <;> cases decide (c.seq < 1) <;> cases decide (c.seq > c.own.c) <;> cases (c.depsI != 0) <;> cases c.nodeB <;> cases c.placeB <;> rfl
  rw [e] at k
  exact k

/-- A question that is answered. -/
def _root_.Go.Eng.DT.fix (i : Nat) (b : Bool) : DT → DT
  | .leaf v => .leaf v
  | .ask j x y => cond (Nat.beq i j) (cond b (y.fix i b) (x.fix i b)) (.ask j (x.fix i b) (y.fix i b))
theorem fix_eval {i : Nat} {b : Bool} {β : Nat → Bool} (h : β i = b) : ∀ (t : DT), (t.fix i b).eval β = t.eval β
  | .leaf _ => rfl
  | .ask j x y => by
    simp only [DT.fix, DT.eval]
    cases e : Nat.beq i j with
    | true =>
      have := Nat.eq_of_beq_eq_true e
      subst this
      rw [h]
      cases b
      · exact fix_eval h x
      · exact fix_eval h y
    | false =>
      simp only [cond_false, DT.eval, fix_eval h x, fix_eval h y]

/-- No leaf is nought, or the error of the clock. -/
def noZero : DT → Bool
  | .leaf (.int .i64 n) => n != 0
  | .leaf (.chan (some 27)) => true
  | .leaf _ => false
  | .ask _ a b => noZero a && noZero b

def toE (n : Int) : Value → Int
  | .int _ m => m
  | _ => n
theorem noZero_eval [Sig] {t : DT} (h : noZero t = true) (β : Nat → Bool) {n : Int} (hs : Sig.val 13 = .int .i64 n) (hn : n ≠ 0) : inst (t.eval β) = .int .i64 (toE n (t.eval β)) ∧ toE n (t.eval β) ≠ 0 := by
  induction t with
  | leaf v =>
    cases v with
    | int k m => cases k <;> first | (exact ⟨rfl, show m ≠ 0 by simpa [noZero] using h⟩) | (simp [noZero] at h; done)
    | chan r =>
      cases r with
      | none => simp [noZero] at h
      | some m =>
        by_cases e : m = 27
        · subst e; exact ⟨hs, hn⟩
        · simp [noZero, e] at h
    | _ => simp [noZero] at h
  | ask i a b ha hb =>
    simp only [noZero, Bool.and_eq_true] at h
    simp only [DT.eval]
    cases β i
    · exact ha h.1
    · exact hb h.2
theorem psym_inv [Sig] {φ : Emb} {n b : Nat} {v' : Value} (hn : n = 4 * b + 2) (h : VRel φ (.chan (some n)) v') : Sig.pr b v' := by
  generalize hv : Value.chan (some n) = v at h
  cases h <;> first | (cases hv; done) | skip
  · cases hv; omega
  · rename_i b'; simp at hv; omega
  · rename_i b' hp; simp at hv; obtain rfl : b = b' := by omega
    exact hp
  · simp at hv; omega

def Chg.rβ (c : Chg) : Nat → Bool := fun i => (c.headB ++ [chk c.l != 0, ((c.l.length - tz c.l c.l.length : Nat) : Int) != (c.l.length : Int), c.apart, c.placedB, c.kind == 1, c.kind == 3, c.kind == 4, c.kind == 5, nameOk c.name, !(c.name.toList == ByteArray.empty.toList), decide ((c.value.size : Int) > 256), !(c.value.toList == ByteArray.empty.toList)]).getD i false

def Chg.rI (c : Chg) : Int := if chk c.l = 0 then toI (rCheck_tree.eval c.rβ) else toE (chk c.l) ((rCheck_tree.fix 5 true).eval c.rβ)
theorem rCheck_any (c : Chg) (w : World) (h : c.In w) : Ans Tryz.prog 7 #[c.val] (.int .i64 c.rI) w ∧ (c.rI = 0 → chk c.l = 0 ∧ toI (rCheck_tree.eval c.rβ) = 0) := by
  letI : Sig := sigOf (c.cells ++ [.int .i64 (chk c.l), .int .i64 c.l.length, .int .i64 (c.l.length - tz c.l c.l.length : Nat), .int .i64 (atOf c.l c.own.r), .int .i64 (IntKind.i64.wrap (c.seq - 1)), .int .i64 c.value.size]) rfl
    (fun _ v => ∃ a k, v = .slice a (c.l.length - tz c.l c.l.length) k) (fun _ v hv => by obtain ⟨a, k, rfl⟩ := hv; rfl) w w.heap.size
  have ok : QsOK Tryz.prog qRCheck c.rβ := ⟨allOf_mem ⟨⟨rfl, keyOK_int rfl rfl rfl rfl⟩, ⟨rfl, keyOK_int rfl rfl rfl rfl⟩, ⟨rfl, keyOK_int rfl rfl rfl rfl⟩, ⟨rfl, keyOK_int rfl rfl rfl rfl⟩, ⟨rfl, keyOK_int rfl rfl rfl rfl⟩, ⟨rfl, keyOK_int rfl rfl rfl rfl⟩, ⟨rfl, keyOK_int rfl rfl rfl rfl⟩,
      ⟨rfl, keyOK_int rfl rfl rfl rfl⟩, ⟨rfl, keyOK_int rfl rfl rfl rfl⟩, ⟨rfl, keyOK_int rfl rfl rfl rfl⟩, ⟨rfl, keyOK_int rfl rfl rfl rfl⟩, ⟨rfl, keyOK_int rfl rfl rfl rfl⟩, ⟨rfl, keyOK_str rfl rfl rfl rfl⟩, ⟨rfl, keyOK_int rfl rfl rfl rfl⟩, ⟨rfl, keyOK_str rfl rfl rfl rfl⟩, trivial⟩,
    allOf_mem ⟨⟨rfl, ⟨_, Tryz.func22, by kernel_rfl, by kernel_rfl⟩, CallOK.of rfl fun w _ => rRight_any c.own w⟩, ⟨rfl, ⟨_, Tryz.func26, by kernel_rfl, by kernel_rfl⟩, CallOK.of rfl fun w _ => placed_any c w⟩, ⟨rfl, ⟨_, Tryz.func27, by kernel_rfl, by kernel_rfl⟩, CallOK.of rfl fun w _ => Ans.of_same (refName c.name w h.nbig)⟩, trivial⟩,
    allOf_mem ⟨⟨rfl, rfl, keyOK_sub rfl rfl rfl rfl⟩, trivial⟩,
    allOf_mem ⟨⟨rfl, ⟨_, Tryz.func23, by kernel_rfl, by kernel_rfl⟩, CallOK.of rfl fun w' hw' => Ans.of_same (refCheck c.A c.l.length c.cap c.l rfl w' (h.later hw').ints h.big)⟩,
      ⟨rfl, ⟨_, Tryz.func24, by kernel_rfl, by kernel_rfl⟩, fun w' hw' => (refTrim c.A c.l.length c.cap c.l rfl w' (h.later hw').ints h.big).mono fun e w'' ⟨⟨a, k, he⟩, hb⟩ => ⟨_, fun φ => .psym 0 ⟨a, k, rfl⟩, he, hb⟩⟩,
      ⟨rfl, ⟨_, Tryz.func25, by kernel_rfl, by kernel_rfl⟩, CallOK.of rfl fun w' hw' => Ans.of_same (refAt c.A c.l.length c.cap c.l c.own.r rfl w' (h.later hw').ints)⟩, trivial⟩,
    allOf_mem ⟨⟨rfl, ukey_len_slice (n := c.l.length) (e := 3) rfl Tryz.underlying24 (fun φ x' hr => ⟨c.A, c.cap, by rw [inst_eq hr rfl]; rfl⟩) rfl⟩,
      ⟨rfl, ukey_len_slice (n := c.l.length - tz c.l c.l.length) (e := 3) rfl Tryz.underlying24 (fun φ x' hr => psym_inv (b := 0) rfl hr) rfl⟩,
      ⟨rfl, ukey_len_str (s := c.value) rfl Tryz.underlying9 rfl rfl rfl⟩, trivial⟩, noExts⟩
  have k := tree_calls ok mixed Tryz.func7 (args := [chg]) rfl (fun _ => rfl) w (.refl _ w) (Nat.le_refl _) (t := rCheck_tree) (acc := []) rfl (fun _ _ h => by cases h) rCheck_run
  by_cases hz : chk c.l = 0
  · have h5 : c.rβ 5 = false := by show (chk c.l != 0) = false; simp [hz]
    have e : inst (rCheck_tree.eval c.rβ) = .int .i64 (toI (rCheck_tree.eval c.rβ)) := by
      rw [← fix_eval h5 rCheck_tree]
      exact intT_eval (by rfl) _
    rw [e] at k
    have er : c.rI = toI (rCheck_tree.eval c.rβ) := if_pos hz
    rw [er]
    exact ⟨k, fun hr => ⟨hz, hr⟩⟩
  · have h5 : c.rβ 5 = true := by show (chk c.l != 0) = true; simp [hz]
    obtain ⟨e, hr⟩ := noZero_eval (t := rCheck_tree.fix 5 true) (by rfl) c.rβ (n := chk c.l) rfl hz
    have er : c.rI = toE (chk c.l) ((rCheck_tree.fix 5 true).eval c.rβ) := if_neg hz
    rw [← er] at e hr
    rw [fix_eval h5] at e
    rw [e] at k
    exact ⟨k, fun h0 => absurd h0 hr⟩

/-! ### What follows, by trying all answers -/
def at0 (b : List Bool) (i : Nat) : Bool := b.getD i false
/-- The questions of placed out of those of node and place: [node = own, node = 0, right node, node < own, parent = 0, after = 0, node parent, parent < own, parent = node, right after, after < own], of a kind. -/
def qsOf (k : Nat) (b : List Bool) : Nat → Bool := fun i => [Nat.beq k 1, Nat.beq k 2, at0 b 0, at0 b 1, at0 b 2, at0 b 3, at0 b 4, at0 b 5, at0 b 6, at0 b 7, at0 b 8, at0 b 9, Nat.ble 3 k, at0 b 10, at0 b 2 && at0 b 3, at0 b 9 && at0 b 10].getD i false
def placedOk (k : Nat) (b : List Bool) : Bool := toB (placed_tree.eval (qsOf k b)) == (toB (node_tree.eval (qsOf k b)) && toB (place_tree.eval (qsOf k b)))
def factsOk (k : Nat) (b : List Bool) : Bool := !(toB (node_tree.eval (qsOf k b)) && toB (place_tree.eval (qsOf k b))) || ((at0 b 0 || (at0 b 1 || at0 b 3)) && ((at0 b 4 || at0 b 7) && (at0 b 5 || at0 b 10)))
theorem placed_all : ([1, 2, 3].all fun k => (allB 11).all fun b => placedOk k b && factsOk k b) = true := by kernel_rfl
/-- [kind = 1, 3, 4, 5, name right, name not empty, value long, value not empty] -/
def wOf (b : List Bool) : Nat → Bool := fun i => at0 b i
def rOf (b : List Bool) : Nat → Bool := fun i => ([false, false, true, false, false, false, false, false, true] ++ b).getD i false
def oneKind (b : List Bool) : Bool := !(at0 b 0 && (at0 b 1 || (at0 b 2 || at0 b 3))) && (!(at0 b 1 && (at0 b 2 || at0 b 3)) && !(at0 b 2 && at0 b 3))
def wordsOk (b : List Bool) : Bool := !(oneKind b) || (!(toI (rCheck_tree.eval (rOf b)) == 0) || toI (words_tree.eval (wOf b)) == 0)
theorem words_all : (allB 8).all wordsOk = true := by kernel_rfl
end Go.Proofs.YtkfkpiphbflokaaGreatDoor
