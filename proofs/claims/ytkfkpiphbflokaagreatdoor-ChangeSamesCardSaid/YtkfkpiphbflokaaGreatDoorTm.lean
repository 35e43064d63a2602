/- The document's Trim: how long its answer is. -/
import Derived.Test.YtkfkpiphbflokaaGreatDoorCl
import Derived.Laws.AppendOwn
import Derived.Laws.OwnMore
namespace Go.Proofs.YtkfkpiphbflokaaGreatDoor
open Go Go.RowKit

/-- How many noughts stand at the end of the first numbers. -/
def tz (l : List Int) : Nat → Nat
  | 0 => 0
  | k + 1 => if l.getD k 0 = 0 then tz l k + 1 else 0
theorem tz_le (l : List Int) : ∀ k, tz l k ≤ k
  | 0 => Nat.le_refl _
  | k + 1 => by unfold tz; have := tz_le l k; split <;> omega
theorem tz_zero (l : List Int) (k : Nat) (h : l.getD k 0 = 0) : tz l (k + 1) = tz l k + 1 := by rw [tz, if_pos h]
theorem tz_pos (l : List Int) (k : Nat) (h : l.getD k 0 ≠ 0) : tz l (k + 1) = 0 := by rw [tz, if_neg h]

/-- A row of the call's own, so long. -/
def Own (B : Nat) (v : Value) (m : Nat) (wr : World) : Prop := ∃ xs, xs.length = m ∧ wr.ownsRow B 3 1 v m xs
theorem info3 : (Tryz.prog.info? 3).map (fun i => (i.zero, i.size, i.bytes)) = some (some (.int .i64 0), 1, 8) := by kernel_rfl
theorem own_low {wr : World} {B n : Nat} {v : Value} {xs : List Value} (h : wr.ownsRow B 3 1 v n xs) {j : Nat} (hj : v.ownBlock = some j) : B ≤ j := by
  rcases h.2 with ⟨rfl, _⟩ | ⟨g, cap, cur, rfl, hb, _⟩
  · cases hj
  · cases hj; exact hb
theorem own_slice {wr : World} {B n : Nat} {v : Value} {xs : List Value} (h : wr.ownsRow B 3 1 v n xs) : ∃ a c, v = .slice a n c := by
  rcases h.2 with ⟨rfl, rfl⟩ | ⟨g, cap, cur, rfl, hb, _⟩
  · exact ⟨_, _, rfl⟩
  · exact ⟨_, _, rfl⟩
theorem Own.alloc {B : Nat} {v : Value} {m : Nat} {wr : World} (h : Own B v m wr) (o : Obj) : Own B v m (wr.alloc o) := by
  obtain ⟨xs, h1, h2⟩ := h
  exact ⟨xs, h1, h2.alloc o⟩

set_option maxHeartbeats 1600000 in
set_option maxRecDepth 100000 in
theorem refTrim (A : Option Addr) (n c : Nat) (l : List Int) (hn : l.length = n) (w : World) (h : IntsAt w A l) (hbig : n ≤ 17592186044416) :
    Calls Tryz.prog 24 #[.slice A n c] w fun e w' => (∃ a c', e = .returned (.slice a (n - tz l n) c')) ∧ Below w.heap.size w w' := by
  obtain ⟨i0, hi, hz0, hz1, hz2⟩ := info_parts info3
  have HN := Lib.hid hn
  have HI := Lib.hid h
  clear hn h
  go_enter Tryz.func24, Tryz.ntmps24
  go_wp2
  go_loopw [3, 4, 5] (fun v z i wr => ∃ k : Nat, k ≤ n ∧ i = .int .i64 k ∧ z = .int .i64 (tz l k : Nat) ∧ Own w.heap.size v (k - tz l k) wr ∧ Below w.heap.size w wr) (fun _ _ i _ => n - (intOf i).toNat)
  case atStart => exact ⟨0, Nat.zero_le _, rfl, rfl, ⟨[], rfl, World.ownsRow_lit w #[] 0 (Nat.le_refl _) (by unfold maxLen; omega) rfl⟩, (Below.refl _ _).alloc (Nat.le_refl _) _⟩
  case round =>
    obtain ⟨k, hk, rfl, rfl, hown, hb⟩ := hrel
    have hz := tz_le l k
    by_cases hlt : k < n
    · obtain ⟨b, o, rfl, hcell0⟩ := HI.out k (by have := HN.out; omega)
      have hbl : b < w.heap.size := World.block_lt_of_cell? w _ hcell0
      have hcell : wr.cell? ⟨b, o + k, none⟩ = some (.int .i64 (l.getD k 0)) := (hb.cell (p := ⟨b, o + k, none⟩) hbl).trans hcell0
      by_cases hx : l.getD k 0 = 0
      · have HT := Lib.hid (tz_zero l k hx)
        rw [hx] at hcell
        have HX := Lib.hid hx
        have HO := Lib.hid hown
        clear hx hcell0 hown
        go_wp2
        go_roundw
        case rel => exact ⟨k + 1, by omega, by go_num, by rw [HT.out]; go_num, by rw [HT.out, show k + 1 - (tz l k + 1) = k - tz l k by omega]; exact HO.out, hb⟩
        case measure => simp [intOf]; omega
      · have HT := Lib.hid (tz_pos l k hx)
        generalize hy : l.getD k 0 = y at hcell hx
        have HX := Lib.hid hy
        have HB := Lib.hid hb
        have HC := Lib.hid hcell0
        have e0 : (y == 0) = false := by simpa using hx
        clear hx hcell0 hy
        go_wp2
        have hown2 : ∃ z : Nat, z ≤ tz l k ∧ Value.int .i64 (tz l k : Nat) = .int .i64 (z : Nat) ∧ Own w.heap.size u3 (k - z) wr ∧ Below w.heap.size w wr := ⟨tz l k, Nat.le_refl _, rfl, hown, HB.out⟩
        have HO := Lib.hid hown2
        clear hown hown2 hb
        go_loopw [3, 4] (fun v zz wr => ∃ z : Nat, z ≤ tz l k ∧ zz = .int .i64 (z : Nat) ∧ Own w.heap.size v (k - z) wr ∧ Below w.heap.size w wr) (fun _ zz _ => (intOf zz).toNat)
        case atStart => exact HO.out
        case round =>
          obtain ⟨z, hzz, rfl, ⟨xs, hxs, hr⟩, hbr⟩ := hrel
          have hsz := hbr.size
          have HXS := Lib.hid hxs
          clear hxs
          by_cases hz0' : 0 < z
          · go_wp2_with (at_builtin; refine wpList_append_own _ rfl _ _ 24 rfl w.heap.size 3 i0 (.int .i64 0) 1 8 Tryz.underlying24 hi hz0 hz1 hz2 rfl (by decide) _ _ _ rfl (hr.alloc _) ⟨wr.heap.size, 0, none⟩ 1 1 [.int .i64 0] rfl rfl ?c1 ?c2 ?c3 ?c4 ?c5 ?_)
            case c1 =>
              intro j u hj
              match j, hj with
              | 0, hj => simp at hj; subst hj; simp [Addr.add]
            case c2 => intro u hu; simp at hu; subst hu; rfl
            case c3 => unfold maxLen; omega
            case c4 => omega
            case c5 => simp; omega
            intro v' w1 hown' hgrow _
            have hb' : Below w.heap.size w w1 := (hbr.alloc (by omega) _).grown hgrow (by simp; omega) (fun j hj => own_low hr hj)
            have HO2 : Hid (Own w.heap.size v' (k - (z - 1)) w1) := Lib.hid ⟨xs ++ [.int .i64 0], by rw [List.length_append, HXS.out]; simp; omega, by rw [show k - (z - 1) = k - z + 1 by omega]; exact hown'⟩
            clear hown' hgrow hr
            go_wp2
            go_roundw
            case rel => exact ⟨z - 1, by omega, by simp; omega, HO2.out, hb'⟩
            case measure => simp [intOf]; omega
          · obtain rfl : z = 0 := by omega
            have hcell' : wr.cell? ⟨b, o + k, none⟩ = some (.int .i64 y) := (hbr.cell (p := ⟨b, o + k, none⟩) hbl).trans (by rw [HC.out, HX.out])
            go_wp2_with (at_builtin; refine wpList_append_own _ rfl _ _ 24 rfl w.heap.size 3 i0 (.int .i64 0) 1 8 Tryz.underlying24 hi hz0 hz1 hz2 rfl (by decide) _ _ _ rfl (hr.alloc _) ⟨wr.heap.size, 0, none⟩ 1 1 [.int .i64 y] rfl rfl ?c1 ?c2 ?c3 ?c4 ?c5 ?_)
            case c1 =>
              intro j u hj
              match j, hj with
              | 0, hj => simp at hj; subst hj; simp [Addr.add]
            case c2 => intro u hu; simp at hu; subst hu; rfl
            case c3 => unfold maxLen; omega
            case c4 => omega
            case c5 => simp; omega
            intro v' w1 hown' hgrow _
            have hb' : Below w.heap.size w w1 := (hbr.alloc (by omega) _).grown hgrow (by simp; omega) (fun j hj => own_low hr hj)
            have HO2 : Hid (Own w.heap.size v' (k + 1) w1) := Lib.hid ⟨xs ++ [.int .i64 y], by rw [List.length_append, HXS.out]; simp, hown'⟩
            clear hown' hgrow hr
            go_wp2
            go_roundw
            case rel => exact ⟨k + 1, by omega, by go_num, by rw [HT.out]; rfl, by rw [HT.out]; exact HO2.out, hb'⟩
            case measure => simp [intOf]; omega
    · obtain rfl : k = n := by omega
      obtain ⟨xs, hxs, hr⟩ := hown
      have hv := own_slice hr
      obtain ⟨a, c', hv⟩ := hv
      subst hv
      have HXS := Lib.hid hxs
      clear hr hxs
      go_wp2
      go_ret
      exact ⟨⟨_, _, rfl⟩, hb⟩
end Go.Proofs.YtkfkpiphbflokaaGreatDoor
