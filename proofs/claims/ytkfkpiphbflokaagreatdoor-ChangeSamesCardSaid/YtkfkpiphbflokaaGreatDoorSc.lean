/- change.Same and the document's Same, of two changes that can be read. -/
import Derived.Test.YtkfkpiphbflokaaGreatDoorCh
import Derived.Test.YtkfkpiphbflokaaGreatDoorSm
namespace Go.Proofs.YtkfkpiphbflokaaGreatDoor
open Go Go.Eng Go.RowKit

def Chg.sameQs (a b : Chg) : List Bool := [a.own.eq b.own, a.seq == b.seq, a.l == b.l, a.kind == b.kind, a.node.eq b.node, a.par.eq b.par, a.aft.eq b.aft, a.name.toList == b.name.toList, a.value.toList == b.value.toList]
def Chg.sameB (a b : Chg) : Bool := toB (same_tree.eval fun i => (a.sameQs b).getD i false)
@[reducible] def sig2 (a b : Chg) (more : List Value) (h : more.all Value.oneCell' = true) (w : World) : Sig := sigP (a.cells ++ (b.cells ++ more)) (by rw [List.all_append, List.all_append, h]; rfl) w

theorem sameQ_ok [Sig] (a b : Chg) (ha : ∀ i, i < 13 → Sig.val i = a.cells.getD i (.bool false)) (hb : ∀ i, i < 13 → Sig.val (13 + i) = b.cells.getD i (.bool false)) (hA : a.In Sig.old) (hB : b.In Sig.old) (hl : Sig.lim = (Sig.old).heap.size) :
    QsOK Tryz.prog qSame (fun i => (a.sameQs b).getD i false) := by
  have st : ∀ i j (s : St), Sig.val i = .int .i64 s.c → Sig.val (i + 1) = .int .i64 s.r → j = i → inst (stp j) = .agg #[.int .i64 s.c, .int .i64 s.r] := by
    intro i j s h1 h2 hj
    subst hj
    show Value.agg #[inst0 (sy j), inst0 (sy (j + 1))] = _
    have e : ∀ n, inst0 (sy n) = Sig.val n := fun n => by show Sig.val ((2 * n + 1) / 2) = _; congr 1; omega
    rw [e, e, h1, h2]
  have call : ∀ f, (∀ w, a.In w → b.In w → Calls Tryz.prog f #[.slice a.A a.l.length a.cap, .slice b.A b.l.length b.cap] w fun e w' => e = .returned (.bool (a.l == b.l)) ∧ ∃ q, w' = w.drewN q) → CallOK Tryz.prog f [sy 3, sy 16] (.bool (a.l == b.l)) := by
    intro f h
    refine CallOK.of rfl fun w' hw' => ?_
    show Calls Tryz.prog f #[Sig.val 3, Sig.val (13 + 3)] w' _
    rw [ha 3 (by omega), hb 3 (by omega)]
    rw [hl] at hw'
    exact (h w' (hA.later hw') (hB.later hw')).mono fun e w'' ⟨he, q, hq⟩ => ⟨he, hq ▸ below_drewN w' q⟩
  refine ⟨allOf_mem ⟨⟨rfl, key_eql ⟨rfl, rfl⟩ (st 0 0 a.own (ha 0 (by omega)) (ha 1 (by omega)) rfl) (st 13 13 b.own (hb 0 (by omega)) (hb 1 (by omega)) rfl) rfl⟩, ⟨rfl, keyOK_int rfl (ha 2 (by omega)) (hb 2 (by omega)) rfl⟩, ⟨rfl, keyOK_int rfl (ha 4 (by omega)) (hb 4 (by omega)) rfl⟩,
      ⟨rfl, key_eql ⟨rfl, rfl⟩ (st 5 5 a.node (ha 5 (by omega)) (ha 6 (by omega)) rfl) (st 18 18 b.node (hb 5 (by omega)) (hb 6 (by omega)) rfl) rfl⟩, ⟨rfl, key_eql ⟨rfl, rfl⟩ (st 7 7 a.par (ha 7 (by omega)) (ha 8 (by omega)) rfl) (st 20 20 b.par (hb 7 (by omega)) (hb 8 (by omega)) rfl) rfl⟩,
      ⟨rfl, key_eql ⟨rfl, rfl⟩ (st 9 9 a.aft (ha 9 (by omega)) (ha 10 (by omega)) rfl) (st 22 22 b.aft (hb 9 (by omega)) (hb 10 (by omega)) rfl) rfl⟩, ⟨rfl, keyOK_str rfl (ha 11 (by omega)) (hb 11 (by omega)) rfl⟩, ⟨rfl, keyOK_str rfl (ha 12 (by omega)) (hb 12 (by omega)) rfl⟩, trivial⟩,
    allOf_mem ⟨⟨rfl, ⟨_, Tryz.func30, by kernel_rfl, by kernel_rfl⟩, call 30 fun w h1 h2 => equalInts a.A b.A _ _ _ _ a.l b.l rfl rfl w h1.ints h2.ints h1.big h2.big⟩, ⟨rfl, ⟨_, Tryz.func31, by kernel_rfl, by kernel_rfl⟩, call 31 fun w h1 h2 => refSame a.A b.A _ _ _ _ a.l b.l rfl rfl w h1.ints h2.ints h1.big h2.big⟩, trivial⟩,
    nil_all, nil_all, nil_all, noExts⟩
theorem cells2_at (a b : Chg) (more : List Value) (d : Value) : (∀ i, i < 13 → (a.cells ++ (b.cells ++ more)).getD i d = a.cells.getD i (.bool false)) ∧ ∀ i, i < 13 → (a.cells ++ (b.cells ++ more)).getD (13 + i) d = b.cells.getD i (.bool false) := by
  constructor <;> intro i hi <;> match i, hi with | 0, _ | 1, _ | 2, _ | 3, _ | 4, _ | 5, _ | 6, _ | 7, _ | 8, _ | 9, _ | 10, _ | 11, _ | 12, _ => rfl
theorem same_any (a b : Chg) (w : World) (hA : a.In w) (hB : b.In w) : Ans Tryz.prog 10 #[a.val, b.val] (.bool (a.sameB b)) w := by
  letI : Sig := sig2 a b [] rfl w
  have h := tree_calls (sameQ_ok a b (cells2_at a b [] _).1 (cells2_at a b [] _).2 hA hB rfl) mixed Tryz.func10 (args := [chg, chgB]) rfl (fun _ => rfl) w (.refl _ w) (Nat.le_refl _) (t := same_tree) (acc := []) rfl (fun _ _ h => by cases h) same_run
  rw [boolT_eval (by rfl)] at h
  exact h
theorem rSame_any (a b : Chg) (w : World) (hA : a.In w) (hB : b.In w) : Ans Tryz.prog 11 #[a.val, b.val] (.bool (a.sameB b)) w := by
  letI : Sig := sig2 a b [] rfl w
  have h := tree_calls (sameQ_ok a b (cells2_at a b [] _).1 (cells2_at a b [] _).2 hA hB rfl) mixed Tryz.func11 (args := [chg, chgB]) rfl (fun _ => rfl) w (.refl _ w) (Nat.le_refl _) (t := rSame_tree) (acc := []) rfl (fun _ _ h => by cases h) rSame_run
  rw [boolT_eval (by rfl)] at h
  exact h
theorem same_self (a b : Chg) (h : b = { a with A := b.A, cap := b.cap }) : a.sameB b = true := by
  rw [h]
  have e : ∀ s : St, s.eq s = true := fun s => St.eq_iff.2 rfl
  have q : a.sameQs { a with A := b.A, cap := b.cap } = [true, true, true, true, true, true, true, true, true] := by
    unfold Chg.sameQs
    simp [e]
  unfold Chg.sameB
  rw [q]; rfl
end Go.Proofs.YtkfkpiphbflokaaGreatDoor
