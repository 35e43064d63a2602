/- What the functions on one change answer. -/
import Derived.Test.YtkfkpiphbflokaaGreatDoorCo
import Derived.Test.YtkfkpiphbflokaaGreatDoorTm
namespace Go.Proofs.YtkfkpiphbflokaaGreatDoor
open Go Go.Eng Go.RowKit

/-- A change; its clock's cells. -/
structure Chg where
  own : St
  seq : Int
  A : Option Addr
  cap : Nat
  l : List Int
  kind : Int
  node : St
  par : St
  aft : St
  name : ByteArray
  value : ByteArray
def Chg.cells (c : Chg) : List Value := [.int .i64 c.own.c, .int .i64 c.own.r, .int .i64 c.seq, .slice c.A c.l.length c.cap, .int .i64 c.kind, .int .i64 c.node.c, .int .i64 c.node.r, .int .i64 c.par.c, .int .i64 c.par.r, .int .i64 c.aft.c, .int .i64 c.aft.r, .string c.name, .string c.value]
def Chg.val (c : Chg) : Value := .agg #[.int .i64 c.own.c, .int .i64 c.own.r, .int .i64 c.seq, .slice c.A c.l.length c.cap, .int .i64 c.kind, .int .i64 c.node.c, .int .i64 c.node.r, .int .i64 c.par.c, .int .i64 c.par.r, .int .i64 c.aft.c, .int .i64 c.aft.r, .string c.name, .string c.value]
/-- It can be read, in this world and in all later ones. -/
structure Chg.In (c : Chg) (w : World) : Prop where
  ints : IntsAt w c.A c.l
  big : c.l.length ≤ 17592186044416
  nbig : c.name.size ≤ 140737488351232
/-- A nil clock has no room. -/
def Chg.Nil (c : Chg) : Prop := c.A = none → c.l = [] ∧ c.cap = 0
theorem IntsAt.later {w w' : World} {A : Option Addr} {l : List Int} {n : Nat} (h : IntsAt w A l) (hb : Below n w w') (hn : w.heap.size ≤ n) : IntsAt w' A l := by
  intro i hi
  obtain ⟨b, o, e, hc⟩ := h i hi
  exact ⟨b, o, e, (hb.cell (p := ⟨b, o + i, none⟩) (Nat.lt_of_lt_of_le (World.block_lt_of_cell? w _ hc) hn)).trans hc⟩
theorem Chg.In.later {c : Chg} {w w' : World} (h : c.In w) (hb : Below w.heap.size w w') : c.In w' := ⟨h.ints.later hb (Nat.le_refl _), h.big, h.nbig⟩

/-- The cells of a change, and some more. -/
@[reducible] def sigC (c : Chg) (more : List Value) (h : more.all Value.oneCell' = true) (w : World) : Sig := sigP (c.cells ++ more) (by rw [List.all_append, h]; rfl) w

theorem Ans.of_same {f : FuncId} {args : Array Value} {v : Value} {w : World} (h : Calls Tryz.prog f args w fun e w' => e = .returned v ∧ w = w') : Ans Tryz.prog f args v w :=
  h.mono fun _ _ ⟨h1, h2⟩ => ⟨h1, h2 ▸ .refl _ _⟩

/-! ### node, place, placed: the questions -/
def toB : Value → Bool
  | .bool b => b
  | _ => false
def Chg.qs (c : Chg) : List Bool := [c.kind == 1, c.kind == 2, c.node.eq c.own, c.node.eq ⟨0, 0⟩, c.node.right, c.node.lt c.own, c.par.eq ⟨0, 0⟩, c.aft.eq ⟨0, 0⟩, c.par.node, c.par.lt c.own, c.par.eq c.node, c.aft.right, decide (c.kind > 2), c.aft.lt c.own, c.node.right && c.node.lt c.own, c.aft.right && c.aft.lt c.own]
def Chg.β (c : Chg) : Nat → Bool := fun i => c.qs.getD i false
theorem no_ok [Sig] (c : Chg) (hs : ∀ i, i < 13 → Sig.val i = c.cells.getD i (.bool false)) : QsOK Tryz.prog qNo c.β := by
  have h0 := hs 0 (by omega); have h1 := hs 1 (by omega); have h4 := hs 4 (by omega); have h5 := hs 5 (by omega); have h6 := hs 6 (by omega); have h7 := hs 7 (by omega); have h8 := hs 8 (by omega); have h9 := hs 9 (by omega); have h10 := hs 10 (by omega)
  have e0 : inst (stp 0) = c.own.val := by show Value.agg #[Sig.val 0, Sig.val 1] = _; rw [h0, h1]; rfl
  have e5 : inst (stp 5) = c.node.val := by show Value.agg #[Sig.val 5, Sig.val 6] = _; rw [h5, h6]; rfl
  have e7 : inst (stp 7) = c.par.val := by show Value.agg #[Sig.val 7, Sig.val 8] = _; rw [h7, h8]; rfl
  have e9 : inst (stp 9) = c.aft.val := by show Value.agg #[Sig.val 9, Sig.val 10] = _; rw [h9, h10]; rfl
  have one : ∀ (f : FuncId) (x : Value) (s : St) (b : Bool), inst x = s.val → (∀ w, Ans Tryz.prog f #[s.val] (.bool b) w) → CallOK Tryz.prog f [x] (.bool b) := fun f x s b hx h => CallOK.of rfl fun w _ => by
    show Calls Tryz.prog f #[inst x] w _
    rw [hx]; exact h w
  have two : ∀ (f : FuncId) (x y : Value) (s t : St) (b : Bool), inst x = s.val → inst y = t.val → (∀ w, Ans Tryz.prog f #[s.val, t.val] (.bool b) w) → CallOK Tryz.prog f [x, y] (.bool b) := fun f x y s t b hx hy h => CallOK.of rfl fun w _ => by
    show Calls Tryz.prog f #[inst x, inst y] w _
    rw [hx, hy]; exact h w
  refine ⟨allOf_mem ⟨⟨rfl, keyOK_int rfl h4 rfl rfl⟩, ⟨rfl, keyOK_int rfl h4 rfl rfl⟩, ⟨rfl, keyOK_int rfl h4 rfl rfl⟩, ⟨rfl, keyOK_int rfl h4 rfl rfl⟩, ⟨rfl, keyOK_int rfl h4 rfl rfl⟩,
      ⟨rfl, key_eql ⟨rfl, rfl⟩ e5 e0 rfl⟩, ⟨rfl, key_neq ⟨rfl, rfl⟩ e5 e0 (Bool.not_not _).symm⟩, ⟨rfl, key_eql ⟨rfl, rfl⟩ (c := 0) (d := 0) e5 rfl rfl⟩, ⟨rfl, key_neq ⟨rfl, rfl⟩ (c := 0) (d := 0) e5 rfl (Bool.not_not _).symm⟩,
      ⟨rfl, key_eql ⟨rfl, rfl⟩ (c := 0) (d := 0) e7 rfl rfl⟩, ⟨rfl, key_eql ⟨rfl, rfl⟩ (c := 0) (d := 0) e9 rfl rfl⟩, ⟨rfl, key_eql ⟨rfl, rfl⟩ e7 e5 rfl⟩, ⟨rfl, key_neq ⟨rfl, rfl⟩ e7 e5 (Bool.not_not _).symm⟩, trivial⟩,
    allOf_mem ⟨⟨rfl, ⟨_, Tryz.func16, by kernel_rfl, by kernel_rfl⟩, one 16 _ _ _ e5 (right_any _)⟩, ⟨rfl, ⟨_, Tryz.func32, by kernel_rfl, by kernel_rfl⟩, two 32 _ _ _ _ _ e5 e0 (less_any _ _)⟩, ⟨rfl, ⟨_, Tryz.func38, by kernel_rfl, by kernel_rfl⟩, one 38 _ _ _ e7 (nodeI_any _)⟩,
      ⟨rfl, ⟨_, Tryz.func41, by kernel_rfl, by kernel_rfl⟩, one 41 _ _ _ e7 (rNodeI_any _)⟩, ⟨rfl, ⟨_, Tryz.func32, by kernel_rfl, by kernel_rfl⟩, two 32 _ _ _ _ _ e7 e0 (less_any _ _)⟩, ⟨rfl, ⟨_, Tryz.func9, by kernel_rfl, by kernel_rfl⟩, two 9 _ _ _ _ _ e7 e0 (rLess_any _ _)⟩,
      ⟨rfl, ⟨_, Tryz.func16, by kernel_rfl, by kernel_rfl⟩, one 16 _ _ _ e9 (right_any _)⟩, ⟨rfl, ⟨_, Tryz.func32, by kernel_rfl, by kernel_rfl⟩, two 32 _ _ _ _ _ e9 e0 (less_any _ _)⟩, ⟨rfl, ⟨_, Tryz.func40, by kernel_rfl, by kernel_rfl⟩, two 40 _ _ _ _ _ e5 e0 (ahead_any _ _)⟩,
      ⟨rfl, ⟨_, Tryz.func40, by kernel_rfl, by kernel_rfl⟩, two 40 _ _ _ _ _ e9 e0 (ahead_any _ _)⟩, trivial⟩, nil_all, nil_all, nil_all, noExts⟩

/-- All leaves are bools; or numbers. -/
def boolT : DT → Bool
  | .leaf (.bool _) => true
  | .leaf _ => false
  | .ask _ a b => boolT a && boolT b
theorem boolT_eval [Sig] {t : DT} (h : boolT t = true) (β : Nat → Bool) : inst (t.eval β) = .bool (toB (t.eval β)) := by
  induction t with
  | leaf v => cases v <;> first | rfl | cases h
  | ask i a b ha hb =>
    simp only [boolT, Bool.and_eq_true] at h
    simp only [DT.eval]
    cases β i
    · exact ha h.1
    · exact hb h.2
theorem cells_at (c : Chg) (more : List Value) (d : Value) : ∀ i, i < 13 → (c.cells ++ more).getD i d = c.cells.getD i (.bool false) := by
  intro i hi
  match i, hi with | 0, _ | 1, _ | 2, _ | 3, _ | 4, _ | 5, _ | 6, _ | 7, _ | 8, _ | 9, _ | 10, _ | 11, _ | 12, _ => rfl

def Chg.nodeB (c : Chg) : Bool := toB (node_tree.eval c.β)
def Chg.placeB (c : Chg) : Bool := toB (place_tree.eval c.β)
def Chg.placedB (c : Chg) : Bool := toB (placed_tree.eval c.β)
theorem node_any (c : Chg) (w : World) : Ans Tryz.prog 19 #[c.val] (.bool c.nodeB) w := by
  letI : Sig := sigC c [] rfl w
  have h := tree_calls (no_ok c (cells_at c [] _)) mixed Tryz.func19 (args := [chg]) rfl (fun _ => rfl) w (.refl _ w) (Nat.le_refl _) (t := node_tree) (acc := []) rfl (fun _ _ h => by cases h) node_run
  rw [boolT_eval (by rfl)] at h
  exact h
theorem place_any (c : Chg) (w : World) : Ans Tryz.prog 20 #[c.val] (.bool c.placeB) w := by
  letI : Sig := sigC c [] rfl w
  have h := tree_calls (no_ok c (cells_at c [] _)) mixed Tryz.func20 (args := [chg]) rfl (fun _ => rfl) w (.refl _ w) (Nat.le_refl _) (t := place_tree) (acc := []) rfl (fun _ _ h => by cases h) place_run
  rw [boolT_eval (by rfl)] at h
  exact h
theorem placed_any (c : Chg) (w : World) : Ans Tryz.prog 26 #[c.val] (.bool c.placedB) w := by
  letI : Sig := sigC c [] rfl w
  have h := tree_calls (no_ok c (cells_at c [] _)) mixed Tryz.func26 (args := [chg]) rfl (fun _ => rfl) w (.refl _ w) (Nat.le_refl _) (t := placed_tree) (acc := []) rfl (fun _ _ h => by cases h) placed_run
  rw [boolT_eval (by rfl)] at h
  exact h

/-! ### words -/
def Chg.ws (c : Chg) : List Bool := [c.kind == 1, c.kind == 3, c.kind == 4, c.kind == 5, nameOk c.name, !(c.name.toList == ByteArray.empty.toList), decide ((c.value.size : Int) > 256), !(c.value.toList == ByteArray.empty.toList)]
def toI : Value → Int
  | .int _ n => n
  | _ => 0
def intT : DT → Bool
  | .leaf (.int .i64 _) => true
  | .leaf _ => false
  | .ask _ a b => intT a && intT b
theorem intT_eval [Sig] {t : DT} (h : intT t = true) (β : Nat → Bool) : inst (t.eval β) = .int .i64 (toI (t.eval β)) := by
  induction t with
  | leaf v =>
    cases v with
    | int k n => cases k <;> first | rfl | cases h
    | _ => cases h
  | ask i a b ha hb =>
    simp only [intT, Bool.and_eq_true] at h
    simp only [DT.eval]
    cases β i
    · exact ha h.1
    · exact hb h.2
def Chg.wordsI (c : Chg) : Int := toI (words_tree.eval fun i => c.ws.getD i false)
theorem words_any (c : Chg) (w : World) : Ans Tryz.prog 21 #[c.val] (.int .i64 c.wordsI) w := by
  letI : Sig := sigC c [.int .i64 c.value.size] rfl w
  have ok : QsOK Tryz.prog qWords (fun i => c.ws.getD i false) := ⟨allOf_mem ⟨⟨rfl, keyOK_int rfl rfl rfl rfl⟩, ⟨rfl, keyOK_int rfl rfl rfl rfl⟩, ⟨rfl, keyOK_int rfl rfl rfl rfl⟩, ⟨rfl, keyOK_int rfl rfl rfl rfl⟩,
      ⟨rfl, keyOK_str rfl rfl rfl rfl⟩, ⟨rfl, keyOK_int rfl rfl rfl rfl⟩, ⟨rfl, keyOK_str rfl rfl rfl rfl⟩, trivial⟩,
    allOf_mem ⟨⟨rfl, ⟨_, Tryz.func39, by kernel_rfl, by kernel_rfl⟩, CallOK.of rfl fun w _ => Ans.of_same (changeName c.name w)⟩, trivial⟩, nil_all, nil_all,
    allOf_mem ⟨⟨rfl, ukey_len_str (s := c.value) rfl Tryz.underlying9 rfl rfl rfl⟩, trivial⟩, noExts⟩
  have h := tree_calls ok mixed Tryz.func21 (args := [chg]) rfl (fun _ => rfl) w (.refl _ w) (Nat.le_refl _) (t := words_tree) (acc := []) rfl (fun _ _ h => by cases h) words_run
  rw [intT_eval (by rfl)] at h
  exact h
end Go.Proofs.YtkfkpiphbflokaaGreatDoor
