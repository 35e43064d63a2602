/- change.Name and the document's Name, of any text. -/
import Derived.Test.YtkfkpiphbflokaaGreatDoorCl
namespace Go.Proofs.YtkfkpiphbflokaaGreatDoor
open Go Go.RowKit

/-- May a byte stand behind a name's first one? -/
def okB (b : UInt8) : Bool := (decide (97 ≤ b.toNat) && decide (b.toNat ≤ 122)) || (decide (48 ≤ b.toNat) && decide (b.toNat ≤ 57)) || decide (b.toNat = 45)
def letB (b : UInt8) : Bool := decide (97 ≤ b.toNat) && decide (b.toNat ≤ 122)
def nameOk (s : ByteArray) : Bool := decide (1 ≤ s.size) && decide (s.size ≤ 32) && letB (s.data.toList.getD 0 0) && s.data.toList.all okB

theorem getD_get (s : ByteArray) {k : Nat} (h : k < s.size) : s.data.toList.getD k 0 = s[k] := by
  rw [List.getD_eq_getElem?_getD, List.getElem?_eq_getElem (by simpa using h)]
  rfl
theorem take_snoc' (s : ByteArray) (k : Nat) (h : k < s.size) : s.data.toList.take (k + 1) = s.data.toList.take k ++ [s[k]] := by
  rw [List.take_succ_eq_append_getElem (by simpa using h)]; rfl
theorem all_snoc (s : ByteArray) (k : Nat) (h : k < s.size) : (s.data.toList.take (k + 1)).all okB = ((s.data.toList.take k).all okB && okB s[k]) := by
  rw [take_snoc' s k h, List.all_append]; simp
theorem all_bad {s : ByteArray} {k : Nat} (h : k < s.size) (hb : okB s[k] = false) : nameOk s = false := by
  have : s.data.toList.all okB = false := by
    cases e : s.data.toList.all okB with
    | false => rfl
    | true =>
      have := List.all_eq_true.1 e s[k] (by rw [← getD_get s h, List.getD_eq_getElem?_getD, List.getElem?_eq_getElem (by simpa using h)]; simp)
      rw [hb] at this; cases this
  unfold nameOk
  rw [this]; simp
theorem ret_bool {a b : Bool} (h : a = b) : Ending.returned (.bool a) = .returned (.bool b) := by rw [h]

set_option maxHeartbeats 1000000 in
theorem changeName (s : ByteArray) (w : World) : Calls Tryz.prog 39 #[.string s] w fun e w' => e = .returned (.bool (nameOk s)) ∧ w = w' := by
  by_cases h0 : s.size = 0
  · have e : nameOk s = false := by unfold nameOk; simp [h0]
    rw [e]
    have H := Lib.hid e
    clear e
    go_enter Tryz.func39, Tryz.ntmps39
    go_wp2
    go_ret
    exact ⟨rfl, rfl⟩
  · by_cases h32 : 32 < s.size
    · have e : nameOk s = false := by unfold nameOk; simp [show ¬ s.size ≤ 32 by omega]
      rw [e]
      have H := Lib.hid e
      clear e
      go_enter Tryz.func39, Tryz.ntmps39
      go_wp2
      go_ret
      exact ⟨rfl, rfl⟩
    · have hpos : 0 < s.size := by omega
      have hle : s.size ≤ 32 := by omega
      have e0 : ((s.size : Int) == 0) = false := by simp; intro h; subst h; simp at hpos
      have e1 : decide ((32 : Int) < (s.size : Int)) = false := by simp; omega
      clear h0 h32
      by_cases ha : (s[0].toNat : Int) < 97
      · have e : nameOk s = false := by unfold nameOk letB; rw [getD_get s hpos]; simp [show ¬ 97 ≤ s[0].toNat by omega]
        rw [e]
        have H := Lib.hid e
        clear e
        go_enter Tryz.func39, Tryz.ntmps39
        go_wp2
        go_ret
        exact ⟨rfl, rfl⟩
      · by_cases hz : (s[0].toNat : Int) > 122
        · have e : nameOk s = false := by unfold nameOk letB; rw [getD_get s hpos]; simp [show ¬ s[0].toNat ≤ 122 by omega]
          rw [e]
          have H := Lib.hid e
          clear e
          go_enter Tryz.func39, Tryz.ntmps39
          go_wp2
          go_ret
          exact ⟨rfl, rfl⟩
        · have hL : letB (s.data.toList.getD 0 0) = true := by unfold letB; rw [getD_get s hpos]; simp; omega
          have HL := Lib.hid hL
          clear hL
          go_enter Tryz.func39, Tryz.ntmps39
          go_wp2
          go_loop [25] (fun i => ∃ k : Nat, k ≤ s.size ∧ i = .int .i64 k ∧ (s.data.toList.take k).all okB = true) (fun i => s.size - (intOf i).toNat)
          case atStart => exact ⟨0, Nat.zero_le _, rfl, rfl⟩
          case round =>
            obtain ⟨k, hk, rfl, hok⟩ := hrel
            have HOK := Lib.hid hok
            clear hok
            by_cases hlt : k < s.size
            · have hs := all_snoc s k hlt
              have HS := Lib.hid hs
              clear hs
              cases hb : okB s[k] with
              | true =>
                have HB := Lib.hid hb
                clear hb
                go_wp2
                all_goals first
                  | (go_round
                     case rel => exact ⟨k + 1, by omega, by go_num, by rw [HS.out, HOK.out, HB.out]; rfl⟩
                     case measure => simp [intOf]; omega)
                  | (exfalso; have := HB.out; unfold okB at this; simp at this; (try simp only [bne_iff_ne, ne_eq, bne_eq_false_iff_eq, Bool.not_eq_eq_eq_not, Bool.not_false, Bool.not_true, decide_eq_true_eq, decide_eq_false_iff_not] at *); omega)
              | false =>
                have HB := Lib.hid (all_bad hlt hb)
                have HB2 := Lib.hid hb
                clear hb
                go_wp2
                all_goals first
                  | (go_ret; exact ⟨ret_bool HB.out.symm, rfl⟩)
                  | (exfalso; have := HB2.out; unfold okB at this; simp at this; (try simp only [bne_iff_ne, ne_eq, bne_eq_false_iff_eq, Bool.not_eq_eq_eq_not, Bool.not_false, Bool.not_true, decide_eq_true_eq, decide_eq_false_iff_not] at *); omega)
            · go_wp2
              go_ret
              refine ⟨ret_bool ?_, rfl⟩
              have h1 := HOK.out
              rw [List.take_of_length_le (by simp; omega)] at h1
              unfold nameOk
              rw [HL.out, h1]
              simp; omega

set_option maxHeartbeats 1000000 in
theorem refName (s : ByteArray) (w : World) (hbig : s.size ≤ 140737488351232) : Calls Tryz.prog 27 #[.string s] w fun e w' => e = .returned (.bool (nameOk s)) ∧ w = w' := by
  go_enter Tryz.func27, Tryz.ntmps27
  go_wp2
  go_loop [3] (fun i => ∃ k : Nat, k ≤ s.size ∧ i = .int .i64 k ∧ (s.data.toList.take k).all okB = true ∧ (0 < k → letB (s.data.toList.getD 0 0) = true)) (fun i => s.size - (intOf i).toNat)
  case atStart => exact ⟨0, Nat.zero_le _, rfl, rfl, by omega⟩
  case round =>
    obtain ⟨k, hk, rfl, hok, hlet⟩ := hrel
    have HOK := Lib.hid hok
    have HLET := Lib.hid hlet
    clear hok hlet
    by_cases hlt : k < s.size
    · have hs := all_snoc s k hlt
      have HS := Lib.hid hs
      clear hs
      by_cases hk0 : k = 0
      · subst hk0
        have hg := getD_get s hlt
        have HG := Lib.hid hg
        clear hg
        cases hb : letB s[0] with
        | true =>
          have HB := Lib.hid hb
          clear hb
          go_wp2
          all_goals first
            | (go_round
               case rel => exact ⟨1, by omega, rfl, by rw [HS.out, HOK.out]; have := HB.out; unfold letB at this; unfold okB; rw [this]; rfl, fun _ => by rw [HG.out, HB.out]⟩
               case measure => simp [intOf]; omega)
            | (exfalso; have := HB.out; unfold letB at this; simp at this; (try simp only [bne_iff_ne, ne_eq, bne_eq_false_iff_eq, Bool.not_eq_eq_eq_not, Bool.not_false, Bool.not_true, decide_eq_true_eq, decide_eq_false_iff_not] at *); omega)
        | false =>
          have HB := Lib.hid hb
          clear hb
          have HF : Hid (nameOk s = false) := Lib.hid (by unfold nameOk; rw [HG.out, HB.out]; simp)
          go_wp2
          all_goals first
            | (go_ret; exact ⟨ret_bool HF.out.symm, rfl⟩)
            | (exfalso; have := HB.out; unfold letB at this; simp at this; (try simp only [bne_iff_ne, ne_eq, bne_eq_false_iff_eq, Bool.not_eq_eq_eq_not, Bool.not_false, Bool.not_true, decide_eq_true_eq, decide_eq_false_iff_not] at *); omega)
      · have e0 : ((k : Int) == 0) = false := by simp; omega
        cases hb : okB s[k] with
        | true =>
          have HB := Lib.hid hb
          clear hb
          go_wp2
          all_goals first
            | (go_round
               case rel => exact ⟨k + 1, by omega, by go_num, by rw [HS.out, HOK.out, HB.out]; rfl, fun _ => HLET.out (by omega)⟩
               case measure => simp [intOf]; omega)
            | (exfalso; have := HB.out; unfold okB at this; simp at this; (try simp only [bne_iff_ne, ne_eq, bne_eq_false_iff_eq, Bool.not_eq_eq_eq_not, Bool.not_false, Bool.not_true, decide_eq_true_eq, decide_eq_false_iff_not] at *); omega)
        | false =>
          have HB := Lib.hid (all_bad hlt hb)
          have HB2 := Lib.hid hb
          clear hb
          go_wp2
          all_goals first
            | (go_ret; exact ⟨ret_bool HB.out.symm, rfl⟩)
            | (exfalso; have := HB2.out; unfold okB at this; simp at this; (try simp only [bne_iff_ne, ne_eq, bne_eq_false_iff_eq, Bool.not_eq_eq_eq_not, Bool.not_false, Bool.not_true, decide_eq_true_eq, decide_eq_false_iff_not] at *); omega)
    · have h1 := HOK.out
      rw [List.take_of_length_le (by simp; omega)] at h1
      have HALL := Lib.hid h1
      clear h1
      by_cases hk0 : k = 0
      · have HF : Hid (nameOk s = false) := Lib.hid (by unfold nameOk; simp [show ¬ 1 ≤ s.size by omega])
        go_wp2
        all_goals first
          | (go_ret; exact ⟨ret_bool HF.out.symm, rfl⟩)
          | (exfalso; omega)
      · have hl := HLET.out (by omega)
        have HL := Lib.hid hl
        clear hl
        have HF : Hid (decide ((s.size : Int) ≤ 32) = nameOk s) := Lib.hid (by
          unfold nameOk
          rw [HL.out, HALL.out]
          have : 1 ≤ s.size := by omega
          simp [this]
          omega)
        go_wp2
        all_goals first
          | (go_ret; exact ⟨ret_bool HF.out, rfl⟩)
          | (exfalso; omega)
end Go.Proofs.YtkfkpiphbflokaaGreatDoor
