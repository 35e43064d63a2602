/- A nil replica answers each call as topiarylaw21.ReplicaNil says: whatever the act and whatever else is told, the law's call returns true, and leaves all older memory alone. -/
import Derived.Test.YtfoocgohjmlgoaaGreatDoorChecked
import Derived.Test.YtfoocgohjmlgoaaGreatDoorEJ
namespace Go.Proofs.YtfoocgohjmlgoaaGreatDoor
open Go Go.Eng Go.RowKit

def isTrue : Option (Value × Heap) → Bool
  | some (.bool true, _) => true
  | _ => false
theorem isTrue_spec {x : Option (Value × Heap)} (h : isTrue x = true) : ∃ H', x = some (.bool true, H') := by
  unfold isTrue at h
  split at h
  · exact ⟨_, rfl⟩
  · cases h

theorem mixed : Tryz.prog.follows .mixedOrders = true := by kernel_rfl

def prs0 : List (FuncId × Ext) := [(306, .same)]
theorem prs0_ok [Sig] : PrimsOK Tryz.prog prs0 := by
  intro f k h
  simp only [prs0, List.mem_singleton, Prod.mk.injEq] at h
  obtain ⟨rfl, rfl⟩ := h
  exact .same Tryz.f306 Tryz.func306 (by kernel_rfl) (by kernel_rfl) (by kernel_rfl) (by kernel_rfl)

def noBin : BinOp → TypeId → Value → Value → Option Value := fun _ _ _ _ => none
theorem noBin_ok [Sig] : BinOK Tryz.prog noBin := fun h => by cases h

set_option maxRecDepth 100000 in
theorem awake_run : isTrue ((hands Tryz.prog (prims Tryz.prog prs0) noBin (399 + 1)).call 16 [] (Eng.start Tryz.prog)) = true := by kernel_rfl

theorem awake_calls (w : World) : Calls Tryz.prog 16 #[] w (fun e w' => e = .returned (.bool true) ∧ Below w.heap.size w w') := by
  letI : Sig := ⟨fun _ => 0⟩
  obtain ⟨H', h⟩ := isTrue_spec awake_run
  exact closed_call (P := Tryz.prog) (l := prs0) (bn := noBin) (n := 399) (f := 16) (fn := Tryz.f16) (args := []) (args' := []) (v := .bool true) (H' := H') prs0_ok noBin_ok mixed Tryz.func16 rfl h (by simp [flat, flat0]) w .nil

def awakeHook : List Value → Option Value
  | [] => some (.bool true)
  | _ => none
def prs1 : List (FuncId × Ext) := [(306, .same), (16, .hook awakeHook)]
theorem prs1_ok [Sig] : PrimsOK Tryz.prog prs1 := by
  intro f k h
  simp only [prs1, List.mem_cons, Prod.mk.injEq, List.not_mem_nil, or_false] at h
  rcases h with ⟨rfl, rfl⟩ | ⟨rfl, rfl⟩
  · exact prs0_ok 306 .same (by simp [prs0])
  · refine .hook Tryz.f16 Tryz.func16 (by kernel_rfl) (by kernel_rfl) ?_
    intro args v hg φ args' ha
    cases ha with
    | nil =>
      simp only [awakeHook, Option.some.injEq] at hg
      subst hg
      exact ⟨.bool true, .bool true, awake_calls⟩
    | cons _ _ => cases hg

/-- Of the number that is not known it is known that it is none of 1 to 6. -/
def otherBin : BinOp → TypeId → Value → Value → Option Value
  | .eql, _, .chan (some 1), .int .i64 (.ofNat k) => cond (Nat.ble 1 k && Nat.ble k 6) (some (.bool false)) none
  | _, _, _, _ => none

theorem otherBin_ok {n : Int} (hn : n < 1 ∨ 6 < n) : @BinOK ⟨fun _ => n⟩ Tryz.prog otherBin := by
  letI : Sig := ⟨fun _ => n⟩
  intro op xt a b v h φ a' b' ha hb x y w
  unfold otherBin at h
  split at h
  · rename_i k
    cases hc : (Nat.ble 1 k && Nat.ble k 6) with
    | false => rw [hc] at h; cases h
    | true =>
      rw [hc] at h
      simp only [cond_true, Option.some.injEq] at h
      subst h
      simp only [Bool.and_eq_true] at hc
      have h1 := Nat.le_of_ble_eq_true hc.1
      have h2 := Nat.le_of_ble_eq_true hc.2
      cases hb
      cases ha
      refine ⟨.bool false, ?_, .bool false⟩
      simp [eqGuard, binOp, Op.intCmp]
      show ¬ n = (k : Int)
      omega
  · cases h

def an (n : Nat) : Value := .agg (repAny n).toArray
def actOf (x : Value) : Value := .agg (x :: repAny 8).toArray

noncomputable def runNil (bn : BinOp → TypeId → Value → Value → Option Value) (x : Value) : Bool := isTrue ((hands Tryz.prog (prims Tryz.prog prs1) bn (99 + 1)).call 3 [actOf x, an 3] (Eng.start Tryz.prog))
set_option maxRecDepth 100000 in
theorem run1 : runNil noBin (.int .i64 1) = true := by kernel_rfl
set_option maxRecDepth 100000 in
theorem run2 : runNil noBin (.int .i64 2) = true := by kernel_rfl
set_option maxRecDepth 100000 in
theorem run3 : runNil noBin (.int .i64 3) = true := by kernel_rfl
set_option maxRecDepth 100000 in
theorem run4 : runNil noBin (.int .i64 4) = true := by kernel_rfl
set_option maxRecDepth 100000 in
theorem run5 : runNil noBin (.int .i64 5) = true := by kernel_rfl
set_option maxRecDepth 100000 in
theorem run6 : runNil noBin (.int .i64 6) = true := by kernel_rfl
set_option maxRecDepth 100000 in
theorem runOther : runNil otherBin (.chan (some 1)) = true := by kernel_rfl

theorem nil_of_run [Sig] {bn : BinOp → TypeId → Value → Value → Option Value} (hbn : BinOK Tryz.prog bn) {x x' : Value} (h : runNil bn x = true) (hx : ∀ φ : Emb, VRel φ x x') {cs ds : List Value} (h8 : cs.length = 8) (h3 : ds.length = 3)
    (hc : ∀ v ∈ cs, v.oneCell' = true) (hd : ∀ v ∈ ds, v.oneCell' = true) (w : World) :
    Calls Tryz.prog 3 #[.agg (x' :: cs).toArray, .agg ds.toArray] w (fun e w' => e = .returned (.bool true) ∧ Below w.heap.size w w') := by
  obtain ⟨H', h⟩ := isTrue_spec h
  refine closed_call (P := Tryz.prog) (l := prs1) (bn := bn) (n := 99) (f := 3) (fn := Tryz.f3) (args := [actOf x, an 3]) (args' := [.agg (x' :: cs).toArray, .agg ds.toArray]) (v := .bool true) (H' := H') prs1_ok hbn mixed Tryz.func3 rfl h (by simp [flat, flat0]) w (.cons (.agg ?_) (.cons (.agg ?_) .nil))
  · exact .cons (hx _) (repAny_rel _ 8 h8.symm hc)
  · exact repAny_rel _ 3 h3.symm hd

/-- THE WALK. -/
theorem nil_calls {n : Int} {cs ds : List Value} (h8 : cs.length = 8) (h3 : ds.length = 3) (hc : ∀ v ∈ cs, v.oneCell' = true) (hd : ∀ v ∈ ds, v.oneCell' = true) (w : World) :
    Calls Tryz.prog 3 #[.agg (.int .i64 n :: cs).toArray, .agg ds.toArray] w (fun e w' => e = .returned (.bool true) ∧ Below w.heap.size w w') := by
  by_cases hn : n < 1 ∨ 6 < n
  · letI : Sig := ⟨fun _ => n⟩
    exact nil_of_run (otherBin_ok hn) runOther (fun φ => .sym 0) h8 h3 hc hd w
  · letI : Sig := ⟨fun _ => 0⟩
    have h6 : n = 1 ∨ n = 2 ∨ n = 3 ∨ n = 4 ∨ n = 5 ∨ n = 6 := by omega
    rcases h6 with rfl | rfl | rfl | rfl | rfl | rfl
    · exact nil_of_run noBin_ok run1 (fun φ => .int _ _) h8 h3 hc hd w
    · exact nil_of_run noBin_ok run2 (fun φ => .int _ _) h8 h3 hc hd w
    · exact nil_of_run noBin_ok run3 (fun φ => .int _ _) h8 h3 hc hd w
    · exact nil_of_run noBin_ok run4 (fun φ => .int _ _) h8 h3 hc hd w
    · exact nil_of_run noBin_ok run5 (fun φ => .int _ _) h8 h3 hc hd w
    · exact nil_of_run noBin_ok run6 (fun φ => .int _ _) h8 h3 hc hd w
#print axioms nil_calls
end Go.Proofs.YtfoocgohjmlgoaaGreatDoor
