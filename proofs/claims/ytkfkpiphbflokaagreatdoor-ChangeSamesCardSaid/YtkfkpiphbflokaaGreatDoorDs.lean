/- What is known of the three stamps of a change: that it is one of the tables; what the tables say is so. -/
import Derived.Test.YtkfkpiphbflokaaGreatDoorNa
import Derived.Test.YtkfkpiphbflokaaGreatDoorPu
namespace Go.Proofs.YtkfkpiphbflokaaGreatDoor
open Go Go.Eng Go.RowKit

/-! The answers: [right, own] of each of three; who is ahead of whom. -/
def ltB (b : List Bool) (i j : Nat) : Bool :=
  match i, j with
  | 0, 1 => at0 b 6
  | 1, 0 => at0 b 7
  | 0, 2 => at0 b 8
  | 2, 0 => at0 b 9
  | 1, 2 => at0 b 10
  | 2, 1 => at0 b 11
  | _, _ => false
def keptB (b : List Bool) (i : Nat) : Bool := at0 b (2 * i) && !(at0 b (2 * i + 1))
def countB (b : List Bool) (i : Nat) : Nat := ([0, 1, 2].filter fun j => keptB b j && ltB b j i).length
def entB (b : List Bool) (i : Nat) : Nat := cond (at0 b (2 * i)) (cond (at0 b (2 * i + 1)) 1 (countB b i + 2)) 0
def descB (b : List Bool) : List Nat := [entB b 0, entB b 1, entB b 2]
/-- It is an order. -/
def consB (b : List Bool) : Bool := [0, 1, 2].all fun i => [0, 1, 2].all fun j => !(ltB b i j && ltB b j i) && [0, 1, 2].all fun k => !(ltB b i k) || (ltB b i j || ltB b j k)
def beqL : List Nat → List Nat → Bool
  | [], [] => true
  | x :: xs, y :: ys => Nat.beq x y && beqL xs ys
  | _, _ => false
def goodB (b : List Bool) : Bool := (descs3 ++ (descs2 ++ (descs1 ++ descs0))).any (beqL (descB b)) && [0, 1, 2].all fun i => [0, 1, 2].all fun j =>
  !(keptB b i && keptB b j) || ((Nat.blt (entB b i) (entB b j) == ltB b i j) && (Nat.beq (entB b i) (entB b j) == (!(ltB b i j) && !(ltB b j i))))
set_option maxRecDepth 100000 in
theorem good_all : (allB 12).all (fun b => !(consB b) || goodB b) = true := by kernel_rfl
theorem beqL_eq : ∀ {a b : List Nat}, beqL a b = true → a = b
  | [], [], _ => rfl
  | [], _ :: _, h => by simp [beqL] at h
  | _ :: _, [], h => by simp [beqL] at h
  | x :: xs, y :: ys, h => by simp only [beqL, Bool.and_eq_true] at h; rw [Nat.eq_of_beq_eq_true h.1, beqL_eq h.2]

def Chg.stOf (c : Chg) (i : Nat) : St := match i with | 0 => c.node | 1 => c.par | _ => c.aft
def Chg.b12 (c : Chg) : List Bool := [c.node.right, c.node.eq c.own, c.par.right, c.par.eq c.own, c.aft.right, c.aft.eq c.own, c.node.lt c.par, c.par.lt c.node, c.node.lt c.aft, c.aft.lt c.node, c.par.lt c.aft, c.aft.lt c.par]
theorem St.lt_irrefl (s : St) : s.lt s = false := by simp [St.lt]
theorem St.lt_asymm (s t : St) : (s.lt t && t.lt s) = false := by
  cases h : (s.lt t && t.lt s) with
  | false => rfl
  | true => simp [St.lt] at h; omega
theorem St.lt_between (s t u : St) : (!(s.lt u) || (s.lt t || t.lt u)) = true := by
  cases h : (!(s.lt u) || (s.lt t || t.lt u)) with
  | true => rfl
  | false => simp [St.lt] at h; omega
theorem St.eq_lt (s t : St) : s.eq t = (!(s.lt t) && !(t.lt s)) := by
  cases h : s.eq t with
  | true => have := St.eq_iff.1 h; subst this; simp [St.lt_irrefl]
  | false =>
    cases h2 : (!(s.lt t) && !(t.lt s)) with
    | false => rfl
    | true => simp [St.lt] at h2; simp [St.eq] at h; omega
theorem lt_of (c : Chg) : ∀ i j, i < 3 → j < 3 → ltB c.b12 i j = (c.stOf i).lt (c.stOf j) := by
  intro i j hi hj
  match i, hi, j, hj with
  | 0, _, 1, _ | 1, _, 0, _ | 0, _, 2, _ | 2, _, 0, _ | 1, _, 2, _ | 2, _, 1, _ => rfl
  | 0, _, 0, _ | 1, _, 1, _ | 2, _, 2, _ => exact (St.lt_irrefl _).symm
theorem mem3 {i : Nat} (h : i ∈ [0, 1, 2]) : i < 3 := by simp at h; omega
theorem cons_of (c : Chg) : consB c.b12 = true := by
  unfold consB
  refine List.all_eq_true.2 fun i hi => List.all_eq_true.2 fun j hj => ?_
  rw [Bool.and_eq_true]
  refine ⟨?_, List.all_eq_true.2 fun k hk => ?_⟩
  · rw [lt_of c i j (mem3 hi) (mem3 hj), lt_of c j i (mem3 hj) (mem3 hi), St.lt_asymm]; rfl
  · rw [lt_of c i k (mem3 hi) (mem3 hk), lt_of c i j (mem3 hi) (mem3 hj), lt_of c j k (mem3 hj) (mem3 hk)]
    exact St.lt_between _ _ _
def Chg.desc (c : Chg) : List Nat := descB c.b12
theorem good_of (c : Chg) : goodB c.b12 = true := by
  have := at_all good_all (l := c.b12) rfl
  rw [cons_of c] at this
  simpa using this
theorem desc_mem (c : Chg) : c.desc ∈ descs3 ++ (descs2 ++ (descs1 ++ descs0)) := by
  have h := good_of c
  unfold goodB at h
  rw [Bool.and_eq_true] at h
  obtain ⟨x, hx, he⟩ := List.any_eq_true.1 h.1
  rw [show c.desc = x from beqL_eq he]; exact hx
theorem right_ent (c : Chg) {i : Nat} (hi : i < 3) : Nat.ble 1 (entB c.b12 i) = (c.stOf i).right := by
  have : Nat.ble 1 (entB c.b12 i) = at0 c.b12 (2 * i) := by
    unfold entB
    cases at0 c.b12 (2 * i) <;> cases at0 c.b12 (2 * i + 1) <;> rfl
  rw [this]
  match i, hi with | 0, _ | 1, _ | 2, _ => rfl
theorem own_ent (c : Chg) {i : Nat} (hi : i < 3) (h : Nat.ble 1 (entB c.b12 i) = true) : ((c.stOf i).eq c.own) = !(Nat.ble 2 (entB c.b12 i)) := by
  have e : at0 c.b12 (2 * i + 1) = (c.stOf i).eq c.own := by match i, hi with | 0, _ | 1, _ | 2, _ => rfl
  rw [← e]
  unfold entB at h ⊢
  revert h
  cases at0 c.b12 (2 * i) <;> cases at0 c.b12 (2 * i + 1) <;> intro h <;> first | rfl | cases h
theorem kept_ent (c : Chg) {i : Nat} (h : Nat.ble 2 (entB c.b12 i) = true) : keptB c.b12 i = true := by
  unfold entB at h
  unfold keptB
  revert h
  cases at0 c.b12 (2 * i) <;> cases at0 c.b12 (2 * i + 1) <;> intro h <;> first | rfl | cases h
theorem pair_ent (c : Chg) {i j : Nat} (hi : i < 3) (hj : j < 3) (h1 : Nat.ble 2 (entB c.b12 i) = true) (h2 : Nat.ble 2 (entB c.b12 j) = true) :
    Nat.blt (entB c.b12 i) (entB c.b12 j) = (c.stOf i).lt (c.stOf j) ∧ Nat.beq (entB c.b12 i) (entB c.b12 j) = (c.stOf i).eq (c.stOf j) := by
  have h := good_of c
  unfold goodB at h
  rw [Bool.and_eq_true] at h
  have hm : ∀ {i : Nat}, i < 3 → i ∈ [0, 1, 2] := fun {i} h => by simp; omega
  have := List.all_eq_true.1 (List.all_eq_true.1 h.2 i (hm hi)) j (hm hj)
  rw [kept_ent c h1, kept_ent c h2] at this
  simp only [Bool.and_true, Bool.not_true, Bool.false_or, Bool.and_eq_true] at this
  rw [St.eq_lt, ← lt_of c i j hi hj, ← lt_of c j i hj hi]
  exact ⟨eq_of_beq this.1, eq_of_beq this.2⟩
theorem cmp_ent (c : Chg) {i j : Nat} (hi : i < 3) (hj : j < 3) (h1 : Nat.ble 2 (entB c.b12 i) = true) (h2 : Nat.ble 2 (entB c.b12 j) = true) : cmpN (entB c.b12 i) (entB c.b12 j) = (c.stOf i).cmp (c.stOf j) := by
  unfold cmpN St.cmp
  rw [(pair_ent c hi hj h1 h2).1, (pair_ent c hj hi h2 h1).1, St.eq_lt]
  have := St.lt_asymm (c.stOf i) (c.stOf j)
  revert this
  cases (c.stOf i).lt (c.stOf j) <;> cases (c.stOf j).lt (c.stOf i) <;> simp
theorem ent_desc (c : Chg) {i : Nat} (hi : i < 3) : ent c.desc (5 + 2 * i) = entB c.b12 i := by
  match i, hi with | 0, _ | 1, _ | 2, _ => rfl
theorem base_of {i : Nat} (h : i ∈ bases) : ∃ p, p < 3 ∧ i = 5 + 2 * p := by
  simp only [bases, List.mem_cons, List.not_mem_nil, or_false] at h
  rcases h with rfl | rfl | rfl
  · exact ⟨0, by omega, rfl⟩
  · exact ⟨1, by omega, rfl⟩
  · exact ⟨2, by omega, rfl⟩
theorem kept_of (c : Chg) {i : Nat} (h : i ∈ kept c.desc) : ∃ p, p < 3 ∧ i = 5 + 2 * p ∧ Nat.ble 2 (entB c.b12 p) = true := by
  unfold kept at h
  obtain ⟨h1, h2⟩ := List.mem_filter.1 h
  obtain ⟨p, hp, rfl⟩ := base_of h1
  rw [ent_desc c hp] at h2
  exact ⟨p, hp, rfl, h2⟩
theorem known_of (c : Chg) {i : Nat} (h : i ∈ known c.desc) : ∃ p, p < 3 ∧ i = 5 + 2 * p ∧ Nat.ble 1 (entB c.b12 p) = true := by
  unfold known at h
  obtain ⟨h1, h2⟩ := List.mem_filter.1 h
  obtain ⟨p, hp, rfl⟩ := base_of h1
  rw [ent_desc c hp] at h2
  exact ⟨p, hp, rfl, h2⟩
end Go.Proofs.YtkfkpiphbflokaaGreatDoor
