/- slices.Equal of numbers and the document's Same of lists: are two lists that are read the same? -/
import Derived.Test.YtkfkpiphbflokaaGreatDoorCl
import Derived.Deep.LoopGhost
import Derived.Deep.Draws
import Derived.RegionTactic
import Derived.Lib.Walk
import Derived.Lib.Slices
namespace Go.Proofs.YtkfkpiphbflokaaGreatDoor
open Go Go.RowKit

theorem below_drewN (w : World) : ∀ q, Below w.heap.size w (w.drewN q)
  | 0 => .refl _ _
  | q + 1 => (below_drewN w q).drew
theorem ret_bool' {a b : Bool} (h : a = b) : Ending.returned (.bool a) = .returned (.bool b) := by rw [h]
theorem list_ne {xs ys : List Int} {k : Nat} (h : xs.getD k 0 ≠ ys.getD k 0) : (false : Bool) = (xs == ys) := by
  cases e : xs == ys with
  | false => rfl
  | true => exact absurd (by rw [eq_of_beq e]) h
theorem list_eq {xs ys : List Int} {n : Nat} (hx : xs.length = n) (hy : ys.length = n) (h : ∀ j, j < n → xs.getD j 0 = ys.getD j 0) : (true : Bool) = (xs == ys) := by
  have : xs = ys := by
    apply List.ext_getElem? 
    intro i
    rcases Nat.lt_or_ge i n with hi | hi
    · have := h i hi
      rw [List.getD_eq_getElem?_getD, List.getD_eq_getElem?_getD, List.getElem?_eq_getElem (by omega), List.getElem?_eq_getElem (by omega)] at this
      rw [List.getElem?_eq_getElem (by omega), List.getElem?_eq_getElem (by omega)]
      simpa using this
    · rw [List.getElem?_eq_none (by omega), List.getElem?_eq_none (by omega)]
  rw [this]; simp
theorem list_len {xs ys : List Int} {n m : Nat} (hx : xs.length = n) (hy : ys.length = m) (h : n ≠ m) : (false : Bool) = (xs == ys) := by
  cases e : xs == ys with
  | false => rfl
  | true => have := eq_of_beq e; subst this; omega

set_option maxHeartbeats 2000000 in
set_option maxRecDepth 100000 in
theorem refSame (A B : Option Addr) (n m c d : Nat) (xs ys : List Int) (hx : xs.length = n) (hy : ys.length = m) (w : World) (h1 : IntsAt w A xs) (h2 : IntsAt w B ys) (hbig : n ≤ 17592186044416) (hbig2 : m ≤ 17592186044416) :
    Calls Tryz.prog 31 #[.slice A n c, .slice B m d] w fun e w' => e = .returned (.bool (xs == ys)) ∧ ∃ q, w' = w.drewN q := by
  by_cases hnm : n = m
  · subst hnm
    have HX := Lib.hid hx
    have HY := Lib.hid hy
    have H1 := Lib.hid h1
    have H2 := Lib.hid h2
    clear hx hy h1 h2
    go_enter Tryz.func31, Tryz.ntmps31
    go_wp2
    go_loopg [5] n (fun g i wr => ∃ k q : Nat, k ≤ n ∧ n - k ≤ g ∧ i = .int .i64 k ∧ wr = w.drewN q ∧ ∀ j, j < k → xs.getD j 0 = ys.getD j 0)
    case atStart => exact ⟨0, 0, Nat.zero_le _, by omega, rfl, rfl, fun j hj => absurd hj (Nat.not_lt_zero _)⟩
    case round =>
      obtain ⟨k, q, hk, hg, rfl, rfl, heq⟩ := hrel
      have HE := Lib.hid heq
      clear heq
      by_cases hlt : k < n
      · obtain ⟨b1, o1, rfl, g1⟩ := H1.out k (by have := HX.out; omega)
        obtain ⟨b2, o2, rfl, g2⟩ := H2.out k (by have := HY.out; omega)
        generalize hxk : xs.getD k 0 = x at g1
        generalize hyk : ys.getD k 0 = y at g2
        have HXK := Lib.hid hxk
        have HYK := Lib.hid hyk
        clear hxk hyk
        by_cases hxy : x = y
        · subst hxy
          go_wp2_with fail
          go_region
          go_wp2
          go_roundg (n - (k + 1))
          case measure => omega
          case rel =>
            refine ⟨k + 1, q + 1, by omega, by omega, by go_num, rfl, fun j hj => ?_⟩
            by_cases e : j = k
            · subst e; rw [HXK.out, HYK.out]
            · exact HE.out j (by omega)
        · go_wp2_with fail
          go_region
          go_wp2
          go_ret
          exact ⟨ret_bool' (list_ne (by rw [HXK.out, HYK.out]; exact hxy)), q + 1, rfl⟩
      · go_wp2
        go_ret
        exact ⟨ret_bool' (list_eq HX.out HY.out fun j hj => HE.out j (by omega)), q, rfl⟩
  · have hnm' : ¬ (n : Int) = (m : Int) := by omega
    have HX := Lib.hid hx
    have HY := Lib.hid hy
    clear hx hy h1 h2
    go_enter Tryz.func31, Tryz.ntmps31
    go_wp2
    go_ret
    exact ⟨ret_bool' (list_len HX.out HY.out hnm), 0, rfl⟩
set_option maxHeartbeats 2000000 in
set_option maxRecDepth 100000 in
theorem equalInts (A B : Option Addr) (n m c d : Nat) (xs ys : List Int) (hx : xs.length = n) (hy : ys.length = m) (w : World) (h1 : IntsAt w A xs) (h2 : IntsAt w B ys) (hbig : n ≤ 17592186044416) (hbig2 : m ≤ 17592186044416) :
    Calls Tryz.prog 30 #[.slice A n c, .slice B m d] w fun e w' => e = .returned (.bool (xs == ys)) ∧ ∃ q, w' = w.drewN q := by
  by_cases hnm : n = m
  · subst hnm
    have HX := Lib.hid hx
    have HY := Lib.hid hy
    have H1 := Lib.hid h1
    have H2 := Lib.hid h2
    clear hx hy h1 h2
    go_enter Tryz.func30, Tryz.ntmps30
    go_wp2
    go_loopg [13] n (fun g i wr => ∃ k q : Nat, k ≤ n ∧ n - k ≤ g ∧ i = .int .i64 k ∧ wr = w.drewN q ∧ ∀ j, j < k → xs.getD j 0 = ys.getD j 0)
    case atStart => exact ⟨0, 0, Nat.zero_le _, by omega, rfl, rfl, fun j hj => absurd hj (Nat.not_lt_zero _)⟩
    case round =>
      obtain ⟨k, q, hk, hg, rfl, rfl, heq⟩ := hrel
      have HE := Lib.hid heq
      clear heq
      by_cases hlt : k < n
      · obtain ⟨b1, o1, rfl, g1⟩ := H1.out k (by have := HX.out; omega)
        obtain ⟨b2, o2, rfl, g2⟩ := H2.out k (by have := HY.out; omega)
        generalize hxk : xs.getD k 0 = x at g1
        generalize hyk : ys.getD k 0 = y at g2
        have HXK := Lib.hid hxk
        have HYK := Lib.hid hyk
        clear hxk hyk
        by_cases hxy : x = y
        · subst hxy
          go_wp2_with fail
          go_region
          go_wp2
          go_roundg (n - (k + 1))
          case measure => omega
          case rel =>
            refine ⟨k + 1, q + 1, by omega, by omega, by go_num, rfl, fun j hj => ?_⟩
            by_cases e : j = k
            · subst e; rw [HXK.out, HYK.out]
            · exact HE.out j (by omega)
        · go_wp2_with fail
          go_region
          go_wp2
          go_ret
          exact ⟨ret_bool' (list_ne (by rw [HXK.out, HYK.out]; exact hxy)), q + 1, rfl⟩
      · go_wp2
        go_ret
        exact ⟨ret_bool' (list_eq HX.out HY.out fun j hj => HE.out j (by omega)), q, rfl⟩
  · have hnm' : ¬ (n : Int) = (m : Int) := by omega
    have HX := Lib.hid hx
    have HY := Lib.hid hy
    clear hx hy h1 h2
    go_enter Tryz.func30, Tryz.ntmps30
    go_wp2
    go_ret
    exact ⟨ret_bool' (list_len HX.out HY.out hnm), 0, rfl⟩
end Go.Proofs.YtkfkpiphbflokaaGreatDoor
