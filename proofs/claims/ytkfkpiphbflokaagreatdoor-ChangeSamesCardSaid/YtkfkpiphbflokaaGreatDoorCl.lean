/- clock.Check, clock.At and the document's Check, At, of a list of numbers that is read. -/
import Derived.Test.YtkfkpiphbflokaaGreatDoorChecked
import Derived.WalkKit
import Derived.Below
import Derived.Lib.Hide
import Derived.Tactics
import Derived.RowKit
import Derived.IntWalk
namespace Go.Proofs.YtkfkpiphbflokaaGreatDoor
open Go Go.RowKit

/-- The numbers that a slice's cells hold. -/
def IntsAt (w : World) (A : Option Addr) (l : List Int) : Prop := ∀ i, i < l.length → ∃ b o, A = some ⟨b, o, none⟩ ∧ w.cell? ⟨b, o + i, none⟩ = some (.int .i64 (l.getD i 0))

theorem IntsAt.split {w : World} {A : Option Addr} {l : List Int} (h : IntsAt w A l) : l = [] ∨ ∃ b o, A = some ⟨b, o, none⟩ ∧ ∀ i, i < l.length → w.cell? ⟨b, o + i, none⟩ = some (.int .i64 (l.getD i 0)) := by
  cases l with
  | nil => exact .inl rfl
  | cons x xs =>
    obtain ⟨b, o, rfl, _⟩ := h 0 (by simp)
    refine .inr ⟨b, o, rfl, fun i hi => ?_⟩
    obtain ⟨b', o', e, h'⟩ := h i hi
    cases e
    exact h'

def clockOk (l : List Int) : Bool := l.all fun n => decide (0 ≤ n ∧ n ≤ 1099511627776)
def chk (l : List Int) : Int := if 64 < l.length then 3 else if clockOk l then 0 else 1

theorem clockOk_take_succ (l : List Int) (k : Nat) (hk : k < l.length) : clockOk (l.take (k + 1)) = (clockOk (l.take k) && decide (0 ≤ l.getD k 0 ∧ l.getD k 0 ≤ 1099511627776)) := by
  unfold clockOk
  rw [List.take_succ_eq_append_getElem hk, List.all_append]
  simp [List.getD_eq_getElem?_getD, hk]

theorem chk_bad {l : List Int} {n k : Nat} {x : Int} (hn : l.length = n) (h64 : n ≤ 64) (hk : k < n) (hx : l.getD k 0 = x) (hb : ¬ (0 ≤ x ∧ x ≤ 1099511627776)) : (1 : Int) = chk l := by
  have : clockOk l = false := by
    cases e : clockOk l with
    | false => rfl
    | true =>
      unfold clockOk at e
      have := List.all_eq_true.1 e (l.getD k 0) (by rw [List.getD_eq_getElem?_getD, List.getElem?_eq_getElem (by omega)]; simp)
      rw [hx] at this
      exact absurd (of_decide_eq_true this) hb
  unfold chk
  rw [if_neg (by omega), this]; rfl
theorem chk_good {l : List Int} {n k : Nat} (hn : l.length = n) (h64 : n ≤ 64) (hk : k ≤ n) (hkn : ¬ k < n) (h : clockOk (l.take k) = true) : (0 : Int) = chk l := by
  rw [List.take_of_length_le (by omega)] at h
  unfold chk
  rw [if_neg (by omega), h]; rfl
theorem ret_i64 {a b : Int} (h : a = b) : Ending.returned (.int .i64 a) = .returned (.int .i64 b) := by rw [h]

set_option maxHeartbeats 1000000 in
theorem clockCheck (A : Option Addr) (n c : Nat) (l : List Int) (hn : l.length = n) (w : World) (h : IntsAt w A l) (hbig : n ≤ 17592186044416) :
    Calls Tryz.prog 36 #[.slice A n c] w fun e w' => e = .returned (.int .i64 (chk l)) ∧ w = w' := by
  by_cases h64 : 64 < n
  · have e : chk l = 3 := by unfold chk; rw [hn, if_pos h64]
    rw [e]
    clear e h
    have HN := Lib.hid hn
    clear hn
    go_enter Tryz.func36, Tryz.ntmps36
    go_wp2
    go_ret
    exact ⟨rfl, rfl⟩
  · have h64' : n ≤ 64 := by omega
    rcases h.split with rfl | ⟨b, o, rfl, hc⟩
    · obtain rfl : 0 = n := by simpa using hn
      clear hn h
      go_enter Tryz.func36, Tryz.ntmps36
      go_wp2
      go_loop [10] (fun i => i = .int .i64 (0 : Nat)) (fun _ => 0)
      case atStart => rfl
      case round =>
        subst hrel
        go_wp2
        go_ret
        exact ⟨rfl, rfl⟩
    · clear h
      have HN := Lib.hid hn
      have hc' : ∀ i, i < n → (⟨b, o, none⟩ : Addr) = ⟨b, o, none⟩ ∧ w.cell? ⟨b, o + i, none⟩ = some (.int .i64 (l.getD i 0)) := fun i hi => ⟨rfl, hc i (by omega)⟩
      have HC := Lib.hid hc'
      clear hn hc hc'
      go_enter Tryz.func36, Tryz.ntmps36
      go_wp2
      go_loop [10] (fun i => ∃ k : Nat, k ≤ n ∧ i = .int .i64 k ∧ clockOk (l.take k) = true) (fun i => n - (intOf i).toNat)
      case atStart => exact ⟨0, Nat.zero_le _, rfl, rfl⟩
      case round =>
        obtain ⟨k, hk, rfl, hok⟩ := hrel
        have HOK := Lib.hid hok
        clear hok
        by_cases hlt : k < n
        · have hcell := (HC.out k hlt).2
          have hs := clockOk_take_succ l k (by have := HN.out; omega)
          generalize hx : l.getD k 0 = x at hcell hs
          have HX := Lib.hid hx
          have HS := Lib.hid hs
          clear hx hs
          by_cases h1 : 0 ≤ x
          · by_cases h2 : x ≤ 1099511627776
            · go_wp2
              go_round
              case rel => exact ⟨k + 1, by omega, by go_num, by rw [HS.out, HOK.out]; simp [h1, h2]⟩
              case measure => simp [intOf]; omega
            · go_wp2
              go_ret
              exact ⟨ret_i64 (chk_bad HN.out h64' hlt HX.out (fun h => by omega)), rfl⟩
          · go_wp2
            go_ret
            exact ⟨ret_i64 (chk_bad HN.out h64' hlt HX.out (fun h => by omega)), rfl⟩
        · go_wp2
          go_ret
          exact ⟨ret_i64 (chk_good HN.out h64' hk hlt HOK.out), rfl⟩

def atOf (l : List Int) (r : Int) : Int := if 0 ≤ r ∧ r < l.length then l.getD r.toNat 0 else 0
set_option maxHeartbeats 1000000 in
theorem clockAt (A : Option Addr) (n c : Nat) (l : List Int) (r : Int) (hn : l.length = n) (w : World) (h : IntsAt w A l) :
    Calls Tryz.prog 37 #[.slice A n c, .int .i64 r] w fun e w' => e = .returned (.int .i64 (atOf l r)) ∧ w = w' := by
  have hr : atOf l r = if 0 ≤ r ∧ r < n then l.getD r.toNat 0 else 0 := by unfold atOf; rw [hn]
  rw [hr]
  clear hr
  by_cases h0 : 0 ≤ r
  · by_cases h1 : r < n
    · rw [if_pos ⟨h0, h1⟩]
      obtain ⟨k, rfl⟩ : ∃ k : Nat, r = k := ⟨r.toNat, by omega⟩
      have hk : k < n := by omega
      obtain ⟨b, o, rfl, hcell⟩ := h k (by omega)
      have hnn : (k : Int).toNat = k := by omega
      rw [hnn]
      generalize l.getD k 0 = x at hcell
      clear h hnn h0 h1
      have HN := Lib.hid hn
      clear hn
      go_enter Tryz.func37, Tryz.ntmps37
      go_wp2
      go_ret
      exact ⟨rfl, rfl⟩
    · rw [if_neg (by omega)]
      clear h
      have HN := Lib.hid hn
      clear hn
      go_enter Tryz.func37, Tryz.ntmps37
      go_wp2
      go_ret
      exact ⟨rfl, rfl⟩
  · rw [if_neg (by omega)]
    clear h
    have HN := Lib.hid hn
    clear hn
    go_enter Tryz.func37, Tryz.ntmps37
    go_wp2
    go_ret
    exact ⟨rfl, rfl⟩
set_option maxHeartbeats 1000000 in
theorem refAt (A : Option Addr) (n c : Nat) (l : List Int) (r : Int) (hn : l.length = n) (w : World) (h : IntsAt w A l) :
    Calls Tryz.prog 25 #[.slice A n c, .int .i64 r] w fun e w' => e = .returned (.int .i64 (atOf l r)) ∧ w = w' := by
  have hr : atOf l r = if 0 ≤ r ∧ r < n then l.getD r.toNat 0 else 0 := by unfold atOf; rw [hn]
  rw [hr]
  clear hr
  by_cases h0 : 0 ≤ r
  · by_cases h1 : r < n
    · rw [if_pos ⟨h0, h1⟩]
      obtain ⟨k, rfl⟩ : ∃ k : Nat, r = k := ⟨r.toNat, by omega⟩
      have hk : k < n := by omega
      obtain ⟨b, o, rfl, hcell⟩ := h k (by omega)
      have hnn : (k : Int).toNat = k := by omega
      rw [hnn]
      generalize l.getD k 0 = x at hcell
      clear h hnn h0 h1
      have HN := Lib.hid hn
      clear hn
      go_enter Tryz.func25, Tryz.ntmps25
      go_wp2
      go_ret
      exact ⟨rfl, rfl⟩
    · rw [if_neg (by omega)]
      clear h
      have HN := Lib.hid hn
      clear hn
      go_enter Tryz.func25, Tryz.ntmps25
      go_wp2
      go_ret
      exact ⟨rfl, rfl⟩
  · rw [if_neg (by omega)]
    clear h
    have HN := Lib.hid hn
    clear hn
    go_enter Tryz.func25, Tryz.ntmps25
    go_wp2
    go_ret
    exact ⟨rfl, rfl⟩

set_option maxHeartbeats 1000000 in
theorem refCheck (A : Option Addr) (n c : Nat) (l : List Int) (hn : l.length = n) (w : World) (h : IntsAt w A l) (hbig : n ≤ 17592186044416) :
    Calls Tryz.prog 23 #[.slice A n c] w fun e w' => e = .returned (.int .i64 (chk l)) ∧ w = w' := by
  by_cases h64 : 64 < n
  · have e : chk l = 3 := by unfold chk; rw [hn, if_pos h64]
    rw [e]
    clear e h
    have HN := Lib.hid hn
    clear hn
    go_enter Tryz.func23, Tryz.ntmps23
    go_wp2
    go_ret
    exact ⟨rfl, rfl⟩
  · have h64' : n ≤ 64 := by omega
    rcases h.split with rfl | ⟨b, o, rfl, hc⟩
    · obtain rfl : 0 = n := by simpa using hn
      clear hn h
      go_enter Tryz.func23, Tryz.ntmps23
      go_wp2
      go_loop [3] (fun i => i = .int .i64 (0 : Nat)) (fun _ => 0)
      case atStart => rfl
      case round =>
        subst hrel
        go_wp2
        go_ret
        exact ⟨rfl, rfl⟩
    · clear h
      have HN := Lib.hid hn
      have hc' : ∀ i, i < n → (⟨b, o, none⟩ : Addr) = ⟨b, o, none⟩ ∧ w.cell? ⟨b, o + i, none⟩ = some (.int .i64 (l.getD i 0)) := fun i hi => ⟨rfl, hc i (by omega)⟩
      have HC := Lib.hid hc'
      clear hn hc hc'
      go_enter Tryz.func23, Tryz.ntmps23
      go_wp2
      go_loop [3] (fun i => ∃ k : Nat, k ≤ n ∧ i = .int .i64 k ∧ clockOk (l.take k) = true) (fun i => n - (intOf i).toNat)
      case atStart => exact ⟨0, Nat.zero_le _, rfl, rfl⟩
      case round =>
        obtain ⟨k, hk, rfl, hok⟩ := hrel
        have HOK := Lib.hid hok
        clear hok
        by_cases hlt : k < n
        · have hcell := (HC.out k hlt).2
          have hs := clockOk_take_succ l k (by have := HN.out; omega)
          generalize hx : l.getD k 0 = x at hcell hs
          have HX := Lib.hid hx
          have HS := Lib.hid hs
          clear hx hs
          by_cases h1 : 0 ≤ x
          · by_cases h2 : x ≤ 1099511627776
            · go_wp2
              go_round
              case rel => exact ⟨k + 1, by omega, by go_num, by rw [HS.out, HOK.out]; simp [h1, h2]⟩
              case measure => simp [intOf]; omega
            · go_wp2
              go_ret
              exact ⟨ret_i64 (chk_bad HN.out h64' hlt HX.out (fun h => by omega)), rfl⟩
          · go_wp2
            go_ret
            exact ⟨ret_i64 (chk_bad HN.out h64' hlt HX.out (fun h => by omega)), rfl⟩
        · go_wp2
          go_ret
          exact ⟨ret_i64 (chk_good HN.out h64' hk hlt HOK.out), rfl⟩
end Go.Proofs.YtkfkpiphbflokaaGreatDoor
