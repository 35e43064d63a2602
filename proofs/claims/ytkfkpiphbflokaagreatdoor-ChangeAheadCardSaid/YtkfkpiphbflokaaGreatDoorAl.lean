/- topiarylaw05.ChangeAhead answers true, of every change that can be read. -/
import Derived.Test.YtkfkpiphbflokaaGreatDoorNc
import Derived.Test.YtkfkpiphbflokaaGreatDoorAw
import Derived.Test.YtkfkpiphbflokaaGreatDoorLr1
import Derived.Test.YtkfkpiphbflokaaGreatDoorLr2
import Derived.Test.YtkfkpiphbflokaaGreatDoorLr3
namespace Go.Proofs.YtkfkpiphbflokaaGreatDoor
open Go Go.Eng Go.RowKit

theorem ok_all (c : Chg) : okAt c.desc = true := by
  rcases List.mem_append.1 (desc_mem c) with h | h
  · exact List.all_eq_true.1 ok3 _ h
  · rcases List.mem_append.1 h with h | h
    · exact List.all_eq_true.1 ok2 _ h
    · rcases List.mem_append.1 h with h | h
      · exact List.all_eq_true.1 ok1 _ h
      · exact List.all_eq_true.1 ok0 _ h
theorem ownLessT_fst {d : List Nat} {e : FuncId × List Value × Value} (h : e ∈ ownLessT d) : e.1 = 9 := by
  obtain ⟨i, _, rfl⟩ := List.mem_map.1 h; rfl
theorem qOk_prims (d : List Nat) (acc : Acc) : prims Tryz.prog ((qOk d).primsL acc) 3 = none :=
  primsL_none (fun e he => by
      obtain rfl : e = (104, .same) := by simpa [qOk] using he
      simp) nil_all fun e he => by
    rcases List.mem_cons.1 he with rfl | he
    · simp
    · rcases List.mem_cons.1 he with rfl | he
      · simp
      · rcases List.mem_append.1 he with he | he
        · rw [rightT_fst he]; simp
        · rcases List.mem_append.1 he with he | he
          · rw [cmpT_fst he]; simp
          · rcases List.mem_append.1 he with he | he
            · rw [ownLessT_fst he]; simp
            · rw [lessT_fst he]; simp
theorem kept_lt (c : Chg) (h : c.checkI = 0) {p : Nat} (hp : p < 3) (hk : Nat.ble 2 (entB c.b12 p) = true) : (c.stOf p).lt c.own = true := by
  obtain ⟨f1, f2, f3⟩ := right_of c h
  have h1 : Nat.ble 1 (entB c.b12 p) = true := by
    have := Nat.le_of_ble_eq_true hk
    rw [Nat.ble_eq]; omega
  have hr : (c.stOf p).right = true := by rw [← right_ent c hp]; exact h1
  have he : (c.stOf p).eq c.own = false := by rw [own_ent c hp h1, hk]; rfl
  match p, hp with
  | 0, _ => exact f1 hr he
  | 1, _ => exact f2 hr
  | 2, _ => exact f3 hr

theorem ahead_any3 (c : Chg) (w : World) (h : c.In w) : Ans Tryz.prog 3 #[c.val] (.bool true) w := by
  by_cases h0 : c.checkI = 0
  · letI : Sig := sigC c [] rfl w
    have hs := cells_at c [] (.bool false)
    have ok : QsOK Tryz.prog (qOk c.desc) (fun _ => false) := ⟨nil_all, nil_all, fun e he => by
        rcases List.mem_append.1 he with he | he
        · exact ownT_ok c hs e he
        · rcases List.mem_append.1 he with he | he
          · exact eqT_ok c hs e he
          · exact neT_ok c hs e he,
      fun e he => by
        rcases List.mem_cons.1 he with rfl | he
        · exact ⟨rfl, has8, CallOK.of rfl fun w _ => awake_any w⟩
        · rcases List.mem_cons.1 he with rfl | he
          · exact ⟨rfl, has6, CallOK.of rfl fun w' hw' => by
              have := check_any c w' (h.later hw')
              rw [h0] at this
              exact this⟩
          · rcases List.mem_append.1 he with he | he
            · exact rightT_ok c hs has16 (fun s w => right_any s w) e he
            · rcases List.mem_append.1 he with he | he
              · exact cmpT_ok c hs e he
              · rcases List.mem_append.1 he with he | he
                · obtain ⟨i, hi, rfl⟩ := List.mem_map.1 he
                  obtain ⟨p, hp, rfl, hk⟩ := kept_of c hi
                  refine ⟨by simp [fine_stp], has9, CallOK.of rfl fun w _ => ?_⟩
                  show Calls Tryz.prog 9 #[inst (stp (5 + 2 * p)), inst (stp 0)] w _
                  rw [inst_stp c hs hp, inst_own c hs]
                  have := rLess_any (c.stOf p) c.own w
                  rw [kept_lt c h0 hp hk] at this
                  exact this
                · exact lessT_ok c hs e he, nil_all, same_ok c hs⟩
    exact tree_calls ok mixed Tryz.func3 (args := [chg]) rfl (fun acc => qOk_prims _ acc) w (.refl _ w) (Nat.le_refl _) (t := .leaf (.bool true)) (acc := []) rfl (fun _ _ h => by cases h) (ok_all c)
  · have hz := (rCheck_any c w h).2
    have hne : c.rI ≠ 0 := fun e => h0 (check_of c (hz e).1 (hz e).2)
    letI : Sig := sigOf (c.cells ++ [.int .i64 c.checkI, .int .i64 c.rI]) rfl (fun _ v => ∃ a n k, v = .slice a n k) (fun _ v hv => by obtain ⟨a, n, k, rfl⟩ := hv; rfl) w w.heap.size
    have ok : QsOK Tryz.prog qBad (fun _ => false) := ⟨nil_all, nil_all, allOf_mem ⟨⟨rfl, rfl, keyOK_int (m := c.checkI) (n := 0) rfl rfl rfl (by show (c.checkI != 0) = true; simpa using h0)⟩, ⟨rfl, rfl, keyOK_int (m := c.rI) (n := 0) rfl rfl rfl (by show (c.rI != 0) = true; simpa using hne)⟩, trivial⟩,
      allOf_mem ⟨⟨rfl, has8, CallOK.of rfl fun w _ => awake_any w⟩, ⟨rfl, has5, fun w' _ => (names_any c w').mono fun e w'' ⟨A, k, he, _, hb⟩ => ⟨_, fun φ => .psym 0 ⟨_, _, _, rfl⟩, he, hb⟩⟩,
        ⟨rfl, has6, CallOK.of rfl fun w' hw' => check_any c w' (h.later hw')⟩, ⟨rfl, has7, CallOK.of rfl fun w' hw' => (rCheck_any c w' (h.later hw')).1⟩, trivial⟩, nil_all, noExts⟩
    exact tree_calls ok mixed Tryz.func3 (args := [chg]) rfl (fun _ => rfl) w (.refl _ w) (Nat.le_refl _) (t := .leaf (.bool true)) (acc := []) rfl (fun _ _ h => by cases h) bad_run
end Go.Proofs.YtkfkpiphbflokaaGreatDoor
