/- What the functions on stamps answer. -/
import Derived.Test.YtkfkpiphbflokaaGreatDoorTr
import Derived.Test.YtkfkpiphbflokaaGreatDoorNm
import Derived.Laws.StructEq
namespace Go.Proofs.YtkfkpiphbflokaaGreatDoor
open Go Go.Eng Go.RowKit

theorem mixed : Tryz.prog.follows .mixedOrders = true := by kernel_rfl
theorem held23 : Tryz.prog.stoodInHeld 23 = false := by kernel_rfl
theorem guard23 : Tryz.prog.eqGuardType Tryz.prog.depth 23 = false := by kernel_rfl
theorem fields23 : Tryz.prog.underlying 23 = some (.struct (Tryz.prog.fieldsOf 23)) := by kernel_rfl
theorem noPr (_ : Nat) (v : Value) : False → v.oneCell' = true := fun h => h.elim
@[reducible] def sigP (vals : List Value) (h : vals.all Value.oneCell' = true) (w : World) : Sig := sigOf vals h (fun _ _ => False) noPr w w.heap.size

theorem stamp_eql (a b c d : Int) (x y : Operand) (w : World) : (do eqGuard .eql 23 x y (.agg #[.int .i64 a, .int .i64 b]) (.agg #[.int .i64 c, .int .i64 d]); binOp .eql 23 (.agg #[.int .i64 a, .int .i64 b]) (.agg #[.int .i64 c, .int .i64 d])).run Tryz.prog w = .ok (.bool (a == c && b == d)) w := by
  rw [Sem.run_bind, run_eqGuard_agg w _ _ _ _ _ _ guard23, Result.andThen_ok, run_eql_struct, run_equalIn_struct w 9999 23 _ _ fields23 held23]
  simp [go_sem, Tryz.underlying23, Tryz.underlying3]
  by_cases h1 : a = c <;> by_cases h2 : b = d <;> simp [h1, h2]
theorem stamp_neq (a b c d : Int) (x y : Operand) (w : World) : (do eqGuard .neq 23 x y (.agg #[.int .i64 a, .int .i64 b]) (.agg #[.int .i64 c, .int .i64 d]); binOp .neq 23 (.agg #[.int .i64 a, .int .i64 b]) (.agg #[.int .i64 c, .int .i64 d])).run Tryz.prog w = .ok (.bool (!(a == c && b == d))) w := by
  rw [Sem.run_bind, run_eqGuard_agg w _ _ _ _ _ _ guard23, Result.andThen_ok, run_neq_struct, run_equalIn_struct w 9999 23 _ _ fields23 held23]
  simp [go_sem, Tryz.underlying23, Tryz.underlying3]
  by_cases h1 : a = c <;> by_cases h2 : b = d <;> simp [h1, h2]

theorem key_eql [Sig] {k : Key} {a b c d : Int} {r : Bool} (hk : k.op = .eql ∧ k.xt = 23) (ha : inst k.a = .agg #[.int .i64 a, .int .i64 b]) (hb : inst k.b = .agg #[.int .i64 c, .int .i64 d]) (h : (a == c && b == d) = r) : KeyOK Tryz.prog k (.bool r) := by
  intro x y w
  obtain ⟨op, xt, ka, kb⟩ := k
  obtain ⟨rfl, rfl⟩ := hk
  simp only at ha hb ⊢
  rw [ha, hb, stamp_eql, h]; rfl
theorem key_neq [Sig] {k : Key} {a b c d : Int} {r : Bool} (hk : k.op = .neq ∧ k.xt = 23) (ha : inst k.a = .agg #[.int .i64 a, .int .i64 b]) (hb : inst k.b = .agg #[.int .i64 c, .int .i64 d]) (h : (a == c && b == d) = !r) : KeyOK Tryz.prog k (.bool r) := by
  intro x y w
  obtain ⟨op, xt, ka, kb⟩ := k
  obtain ⟨rfl, rfl⟩ := hk
  simp only at ha hb ⊢
  rw [ha, hb, stamp_neq, h, Bool.not_not]; rfl

theorem nil_all {α : Type} {p : α → Prop} : ∀ e ∈ ([] : List α), p e := fun _ h => by cases h
theorem noExts [Sig] : PrimsOK Tryz.prog [] := fun _ _ h => by cases h

/-- A stamp. -/
structure St where
  c : Int
  r : Int
def St.val (s : St) : Value := .agg #[.int .i64 s.c, .int .i64 s.r]
def St.right (s : St) : Bool := decide (s.c ≥ 1) && (decide (s.c ≤ 1099511627776) && (decide (s.r ≥ 0) && decide (s.r < 64)))
def St.lt (s t : St) : Bool := decide (s.c < t.c) || (s.c == t.c && decide (s.r < t.r))
def St.eq (s t : St) : Bool := s.c == t.c && s.r == t.r
def St.cmp (s t : St) : Int := cond (s.eq t) 0 (cond (s.lt t) (-1) 1)

/-- The frame of all contracts: what is answered; older memory is as it was. -/
abbrev Ans (P : Program) (f : FuncId) (args : Array Value) (v : Value) (w : World) : Prop := Calls P f args w fun e w' => e = .returned v ∧ Below w.heap.size w w'

theorem right_any (s : St) (w : World) : Ans Tryz.prog 16 #[s.val] (.bool s.right) w := by
  letI : Sig := sigP [.int .i64 s.c, .int .i64 s.r] rfl w
  let β : Nat → Bool := fun i => [decide (s.c ≥ 1), decide (s.c ≤ 1099511627776), decide (s.r ≥ 0), decide (s.r < 64)].getD i false
  have ok : QsOK Tryz.prog qRight β := ⟨allOf_mem ⟨⟨rfl, keyOK_int rfl rfl rfl rfl⟩, ⟨rfl, keyOK_int rfl rfl rfl rfl⟩, ⟨rfl, keyOK_int rfl rfl rfl rfl⟩, ⟨rfl, keyOK_int rfl rfl rfl rfl⟩, trivial⟩, nil_all, nil_all, nil_all, nil_all, noExts⟩
  have h := tree_calls ok mixed Tryz.func16 (args := [stp 0]) rfl (fun _ => rfl) w (.refl _ w) (Nat.le_refl _) (t := right_tree) (acc := []) rfl (fun _ _ h => by cases h) right_run
  have e : inst (right_tree.eval β) = .bool s.right := by
    simp only [right_tree, DT.eval, St.right, show β 0 = decide (s.c ≥ 1) from rfl, show β 1 = decide (s.c ≤ 1099511627776) from rfl, show β 2 = decide (s.r ≥ 0) from rfl, show β 3 = decide (s.r < 64) from rfl]
    cases decide (s.c ≥ 1) <;> cases decide (s.c ≤ 1099511627776) <;> cases decide (s.r ≥ 0) <;> cases decide (s.r < 64) <;> rfl
  rw [e] at h
  exact h
theorem rRight_any (s : St) (w : World) : Ans Tryz.prog 22 #[s.val] (.bool s.right) w := by
  letI : Sig := sigP [.int .i64 s.c, .int .i64 s.r] rfl w
  let β : Nat → Bool := fun i => [decide (s.c ≥ 1), decide (s.c ≤ 1099511627776), decide (s.r ≥ 0), decide (s.r < 64)].getD i false
  have ok : QsOK Tryz.prog qRight β := ⟨allOf_mem ⟨⟨rfl, keyOK_int rfl rfl rfl rfl⟩, ⟨rfl, keyOK_int rfl rfl rfl rfl⟩, ⟨rfl, keyOK_int rfl rfl rfl rfl⟩, ⟨rfl, keyOK_int rfl rfl rfl rfl⟩, trivial⟩, nil_all, nil_all, nil_all, nil_all, noExts⟩
  have h := tree_calls ok mixed Tryz.func22 (args := [stp 0]) rfl (fun _ => rfl) w (.refl _ w) (Nat.le_refl _) (t := rRight_tree) (acc := []) rfl (fun _ _ h => by cases h) rRight_run
  have e : inst (rRight_tree.eval β) = .bool s.right := by
    simp only [rRight_tree, DT.eval, St.right, show β 0 = decide (s.c ≥ 1) from rfl, show β 1 = decide (s.c ≤ 1099511627776) from rfl, show β 2 = decide (s.r ≥ 0) from rfl, show β 3 = decide (s.r < 64) from rfl]
    cases decide (s.c ≥ 1) <;> cases decide (s.c ≤ 1099511627776) <;> cases decide (s.r ≥ 0) <;> cases decide (s.r < 64) <;> rfl
  rw [e] at h
  exact h

theorem cmp_ok [Sig] (s t : St) (h0 : Sig.val 0 = .int .i64 s.c) (h1 : Sig.val 1 = .int .i64 s.r) (h2 : Sig.val 2 = .int .i64 t.c) (h3 : Sig.val 3 = .int .i64 t.r) :
    QsOK Tryz.prog qCmp (fun i => [s.eq t, decide (s.c < t.c), s.c == t.c, decide (s.r < t.r)].getD i false) :=
  ⟨allOf_mem ⟨⟨rfl, key_eql ⟨rfl, rfl⟩ (a := s.c) (b := s.r) (c := t.c) (d := t.r) (by show Value.agg #[Sig.val 0, Sig.val 1] = _; rw [h0, h1]) (by show Value.agg #[Sig.val 2, Sig.val 3] = _; rw [h2, h3]) rfl⟩,
    ⟨rfl, keyOK_int rfl h0 h2 rfl⟩, ⟨rfl, keyOK_int rfl h0 h2 rfl⟩, ⟨rfl, keyOK_int rfl h1 h3 rfl⟩, trivial⟩, nil_all, nil_all, nil_all, nil_all, noExts⟩
theorem cmp_any (s t : St) (w : World) : Ans Tryz.prog 52 #[s.val, t.val] (.int .i64 (s.cmp t)) w := by
  letI : Sig := sigP [.int .i64 s.c, .int .i64 s.r, .int .i64 t.c, .int .i64 t.r] rfl w
  have h := tree_calls (cmp_ok s t rfl rfl rfl rfl) mixed Tryz.func52 (args := [stp 0, stp 2]) rfl (fun _ => rfl) w (.refl _ w) (Nat.le_refl _) (t := cmp_tree) (acc := []) rfl (fun _ _ h => by cases h) cmp_run
  have e : inst (cmp_tree.eval fun i => [s.eq t, decide (s.c < t.c), s.c == t.c, decide (s.r < t.r)].getD i false) = .int .i64 (s.cmp t) := by
    simp only [cmp_tree, DT.eval, St.cmp, St.lt, List.getD_cons_zero, List.getD_cons_succ]
    cases s.eq t <;> cases decide (s.c < t.c) <;> cases (s.c == t.c) <;> cases decide (s.r < t.r) <;> rfl
  rw [e] at h
  exact h
theorem rLess_any (s t : St) (w : World) : Ans Tryz.prog 9 #[s.val, t.val] (.bool (s.lt t)) w := by
  letI : Sig := sigP [.int .i64 s.c, .int .i64 s.r, .int .i64 t.c, .int .i64 t.r] rfl w
  have h := tree_calls (cmp_ok s t rfl rfl rfl rfl) mixed Tryz.func9 (args := [stp 0, stp 2]) rfl (fun _ => rfl) w (.refl _ w) (Nat.le_refl _) (t := rLess_tree) (acc := []) rfl (fun _ _ h => by cases h) rLess_run
  have e : inst (rLess_tree.eval fun i => [s.eq t, decide (s.c < t.c), s.c == t.c, decide (s.r < t.r)].getD i false) = .bool (s.lt t) := by
    simp only [rLess_tree, DT.eval, St.lt, List.getD_cons_zero, List.getD_cons_succ]
    cases decide (s.c < t.c) <;> cases (s.c == t.c) <;> cases decide (s.r < t.r) <;> rfl
  rw [e] at h
  exact h
theorem St.eq_iff {s t : St} : s.eq t = true ↔ s = t := by
  unfold St.eq
  cases s; cases t
  simp
theorem St.cmp_neg (s t : St) : decide (s.cmp t < 0) = s.lt t := by
  unfold St.cmp
  cases h : s.eq t with
  | true =>
    have := St.eq_iff.1 h
    subst this
    unfold St.lt; simp
  | false => cases s.lt t <;> simp
theorem less_any (s t : St) (w : World) : Ans Tryz.prog 32 #[s.val, t.val] (.bool (s.lt t)) w := by
  letI : Sig := sigP [.int .i64 s.c, .int .i64 s.r, .int .i64 t.c, .int .i64 t.r, .int .i64 (s.cmp t)] rfl w
  have ok : QsOK Tryz.prog qLess (fun _ => decide (s.cmp t < 0)) := ⟨allOf_mem ⟨⟨rfl, keyOK_int rfl rfl rfl rfl⟩, trivial⟩, nil_all, nil_all, allOf_mem ⟨⟨rfl, ⟨_, Tryz.func52, by kernel_rfl, by kernel_rfl⟩, CallOK.of rfl fun w _ => cmp_any s t w⟩, trivial⟩, nil_all, noExts⟩
  have h := tree_calls ok mixed Tryz.func32 (args := [stp 0, stp 2]) rfl (fun _ => rfl) w (.refl _ w) (Nat.le_refl _) (t := less_tree) (acc := []) rfl (fun _ _ h => by cases h) less_run
  have e : inst (less_tree.eval fun _ => decide (s.cmp t < 0)) = .bool (s.lt t) := by
    simp only [less_tree, DT.eval, St.cmp_neg]
    cases s.lt t <;> rfl
  rw [e] at h
  exact h

def St.node (s : St) : Bool := s.right || (s.c == 0 && (s.r == 0 || s.r == 1))
theorem node_ok [Sig] (s : St) (h0 : Sig.val 0 = .int .i64 s.c) (h1 : Sig.val 1 = .int .i64 s.r) : QsOK Tryz.prog qNode (fun i => [s.right, s.c == 0 && s.r == 0, s.c == 0 && s.r == 1, s.c == 0, s.r == 0, s.r == 1].getD i false) :=
  ⟨allOf_mem ⟨⟨rfl, key_eql ⟨rfl, rfl⟩ (a := s.c) (b := s.r) (c := 0) (d := 0) (by show Value.agg #[Sig.val 0, Sig.val 1] = _; rw [h0, h1]) rfl rfl⟩,
    ⟨rfl, key_eql ⟨rfl, rfl⟩ (a := s.c) (b := s.r) (c := 0) (d := 1) (by show Value.agg #[Sig.val 0, Sig.val 1] = _; rw [h0, h1]) rfl rfl⟩,
    ⟨rfl, keyOK_int rfl h0 rfl rfl⟩, ⟨rfl, keyOK_int rfl h1 rfl rfl⟩, ⟨rfl, keyOK_int rfl h1 rfl rfl⟩, trivial⟩,
   allOf_mem ⟨⟨rfl, ⟨_, Tryz.func16, by kernel_rfl, by kernel_rfl⟩, CallOK.of rfl fun w _ => by
      have := right_any s w
      show Calls Tryz.prog 16 #[.agg #[Sig.val 0, Sig.val 1]] w _
      rw [h0, h1]; exact this⟩, ⟨rfl, ⟨_, Tryz.func22, by kernel_rfl, by kernel_rfl⟩, CallOK.of rfl fun w _ => by
      have := rRight_any s w
      show Calls Tryz.prog 22 #[.agg #[Sig.val 0, Sig.val 1]] w _
      rw [h0, h1]; exact this⟩, trivial⟩, nil_all, nil_all, nil_all, noExts⟩
theorem nodeI_any (s : St) (w : World) : Ans Tryz.prog 38 #[s.val] (.bool s.node) w := by
  letI : Sig := sigP [.int .i64 s.c, .int .i64 s.r] rfl w
  have h := tree_calls (node_ok s rfl rfl) mixed Tryz.func38 (args := [stp 0]) rfl (fun _ => rfl) w (.refl _ w) (Nat.le_refl _) (t := nodeI_tree) (acc := []) rfl (fun _ _ h => by cases h) nodeI_run
  have e : inst (nodeI_tree.eval fun i => [s.right, s.c == 0 && s.r == 0, s.c == 0 && s.r == 1, s.c == 0, s.r == 0, s.r == 1].getD i false) = .bool s.node := by
    simp only [nodeI_tree, DT.eval, St.node, List.getD_cons_zero, List.getD_cons_succ]
    cases s.right <;> cases (s.c == 0) <;> cases (s.r == 0) <;> cases (s.r == 1) <;> rfl
  rw [e] at h
  exact h
theorem rNodeI_any (s : St) (w : World) : Ans Tryz.prog 41 #[s.val] (.bool s.node) w := by
  letI : Sig := sigP [.int .i64 s.c, .int .i64 s.r] rfl w
  have h := tree_calls (node_ok s rfl rfl) mixed Tryz.func41 (args := [stp 0]) rfl (fun _ => rfl) w (.refl _ w) (Nat.le_refl _) (t := rNodeI_tree) (acc := []) rfl (fun _ _ h => by cases h) rNodeI_run
  have e : inst (rNodeI_tree.eval fun i => [s.right, s.c == 0 && s.r == 0, s.c == 0 && s.r == 1, s.c == 0, s.r == 0, s.r == 1].getD i false) = .bool s.node := by
    simp only [rNodeI_tree, DT.eval, St.node, List.getD_cons_zero, List.getD_cons_succ]
    cases s.right <;> cases (s.c == 0) <;> cases (s.r == 0) <;> cases (s.r == 1) <;> rfl
  rw [e] at h
  exact h
theorem ahead_any (s t : St) (w : World) : Ans Tryz.prog 40 #[s.val, t.val] (.bool (s.right && s.lt t)) w := by
  letI : Sig := sigP [.int .i64 s.c, .int .i64 s.r, .int .i64 t.c, .int .i64 t.r] rfl w
  have ok : QsOK Tryz.prog qAhead (fun i => [s.right, s.lt t].getD i false) := ⟨nil_all, allOf_mem ⟨⟨rfl, ⟨_, Tryz.func22, by kernel_rfl, by kernel_rfl⟩, CallOK.of rfl fun w _ => rRight_any s w⟩, ⟨rfl, ⟨_, Tryz.func9, by kernel_rfl, by kernel_rfl⟩, CallOK.of rfl fun w _ => rLess_any s t w⟩, trivial⟩, nil_all, nil_all, nil_all, noExts⟩
  have h := tree_calls ok mixed Tryz.func40 (args := [stp 0, stp 2]) rfl (fun _ => rfl) w (.refl _ w) (Nat.le_refl _) (t := ahead_tree) (acc := []) rfl (fun _ _ h => by cases h) ahead_run
  have e : inst (ahead_tree.eval fun i => [s.right, s.lt t].getD i false) = .bool (s.right && s.lt t) := by
    simp only [ahead_tree, DT.eval, List.getD_cons_zero, List.getD_cons_succ]
    cases s.right <;> cases s.lt t <;> rfl
  rw [e] at h
  exact h
end Go.Proofs.YtkfkpiphbflokaaGreatDoor
