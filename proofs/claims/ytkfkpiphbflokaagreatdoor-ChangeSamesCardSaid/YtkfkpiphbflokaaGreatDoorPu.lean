/- Where the document's Check lets a change by, change.Check does; and then each stamp that it names is ahead of its own. -/
import Derived.Test.YtkfkpiphbflokaaGreatDoorCk
namespace Go.Proofs.YtkfkpiphbflokaaGreatDoor
open Go Go.Eng Go.RowKit

theorem mem_all : ∀ {l : List Bool}, l ∈ allB l.length
  | [] => by simp [allB]
  | b :: l => by
    simp only [List.length_cons, allB, List.mem_flatMap]
    exact ⟨l, mem_all, by cases b <;> simp⟩
theorem at_all {n : Nat} {p : List Bool → Bool} (h : (allB n).all p = true) {l : List Bool} (hl : l.length = n) : p l = true := by
  subst hl
  exact List.all_eq_true.1 h l mem_all
def boundT (n : Nat) : DT → Bool
  | .leaf _ => true
  | .ask i a b => Nat.blt i n && (boundT n a && boundT n b)
theorem eval_congr {n : Nat} {β γ : Nat → Bool} (h : ∀ i, i < n → β i = γ i) : ∀ {t : DT}, boundT n t = true → t.eval β = t.eval γ
  | .leaf _, _ => rfl
  | .ask i a b, hb => by
    simp only [boundT, Bool.and_eq_true] at hb
    simp only [DT.eval, h i (by simpa [Nat.blt_eq] using hb.1), eval_congr h hb.2.1, eval_congr h hb.2.2]

theorem head_of (β : Nat → Bool) (h : toI (rCheck_tree.eval β) = 0) (h5 : β 5 = false) : β 0 = false ∧ β 1 = false ∧ β 2 = true ∧ β 3 = false ∧ β 4 = false ∧ β 6 = false ∧ β 7 = false ∧ β 8 = true := by
  simp only [rCheck_tree, DT.eval] at h
  cases h0 : β 0 with
  | true => simp [h0, toI] at h
  | false =>
  cases h1 : β 1 with
  | true => simp [h0, h1, toI] at h
  | false =>
  cases h2 : β 2 with
  | false => simp [h0, h1, h2, toI] at h
  | true =>
  cases h3 : β 3 with
  | true => simp [h0, h1, h2, h3, toI] at h
  | false =>
  cases h4 : β 4 with
  | true => simp [h0, h1, h2, h3, h4, toI] at h
  | false =>
  cases h6 : β 6 with
  | true => simp [h0, h1, h2, h3, h4, h5, h6, toI] at h
  | false =>
  cases h7 : β 7 with
  | true => simp [h0, h1, h2, h3, h4, h5, h6, h7, toI] at h
  | false =>
  cases h8 : β 8 with
  | false => simp [h0, h1, h2, h3, h4, h5, h6, h7, h8, toI] at h
  | true => exact ⟨rfl, rfl, rfl, rfl, rfl, rfl, rfl, rfl⟩

theorem tz_last {l : List Int} {n : Nat} (hn : 0 < n) (h : l.getD (n - 1) 0 = 0) : 0 < tz l n := by
  obtain ⟨m, rfl⟩ : ∃ m, n = m + 1 := ⟨n - 1, by omega⟩
  rw [tz_zero l m (by simpa using h)]
  omega

def Chg.bs (c : Chg) : List Bool := [c.node.eq c.own, c.node.eq ⟨0, 0⟩, c.node.right, c.node.lt c.own, c.par.eq ⟨0, 0⟩, c.aft.eq ⟨0, 0⟩, c.par.node, c.par.lt c.own, c.par.eq c.node, c.aft.right, c.aft.lt c.own]
theorem β_eq (c : Chg) (h1 : 1 ≤ c.kind) : ∃ k, k ∈ [1, 2, 3] ∧ c.β = qsOf k c.bs := by
  by_cases e1 : c.kind = 1
  · exact ⟨1, by simp, by unfold Chg.β Chg.qs; rw [e1]; rfl⟩
  · by_cases e2 : c.kind = 2
    · exact ⟨2, by simp, by unfold Chg.β Chg.qs; rw [e2]; rfl⟩
    · refine ⟨3, by simp, ?_⟩
      unfold Chg.β Chg.qs
      have a1 : (c.kind == 1) = false := by simpa using e1
      have a2 : (c.kind == 2) = false := by simpa using e2
      have a3 : decide (c.kind > 2) = true := decide_eq_true (by omega)
      rw [a1, a2, a3]; rfl
theorem all3 {k : Nat} (hk : k ∈ [1, 2, 3]) {b : List Bool} (hb : b.length = 11) : placedOk k b = true ∧ factsOk k b = true := by
  have := List.all_eq_true.1 placed_all k hk
  simpa [Bool.and_eq_true] using at_all this hb
theorem placed_eq (c : Chg) (h1 : 1 ≤ c.kind) : c.placedB = (c.nodeB && c.placeB) := by
  obtain ⟨k, hk, e⟩ := β_eq c h1
  have := (all3 hk (b := c.bs) rfl).1
  unfold placedOk at this
  rw [← e] at this
  exact eq_of_beq this
theorem facts_of (c : Chg) (h1 : 1 ≤ c.kind) (hn : c.nodeB = true) (hp : c.placeB = true) :
    (c.node.eq c.own = true ∨ c.node.eq ⟨0, 0⟩ = true ∨ c.node.lt c.own = true) ∧ (c.par.eq ⟨0, 0⟩ = true ∨ c.par.lt c.own = true) ∧ (c.aft.eq ⟨0, 0⟩ = true ∨ c.aft.lt c.own = true) := by
  obtain ⟨k, hk, e⟩ := β_eq c h1
  have := (all3 hk (b := c.bs) rfl).2
  unfold factsOk at this
  rw [← e] at this
  unfold Chg.nodeB at hn
  unfold Chg.placeB at hp
  rw [hn, hp] at this
  simpa [at0, Chg.bs, Bool.or_eq_true, Bool.and_eq_true] using this

theorem oneKind_of (k : Int) (x : List Bool) : oneKind ((k == 1) :: (k == 3) :: (k == 4) :: (k == 5) :: x) = true := by
  unfold oneKind
  simp only [at0, List.getD_cons_zero, List.getD_cons_succ]
  by_cases e1 : k = 1
  · subst e1; rfl
  · by_cases e3 : k = 3
    · subst e3; rfl
    · have a1 : (k == 1) = false := by simpa using e1
      have a3 : (k == 3) = false := by simpa using e3
      rw [a1, a3]
      by_cases e4 : k = 4
      · subst e4; rfl
      · have a4 : (k == 4) = false := by simpa using e4
        rw [a4]; rfl

/-- Where the document's lets a change by, the other one does. -/
theorem check_of (c : Chg) (hc : chk c.l = 0) (h : toI (rCheck_tree.eval c.rβ) = 0) : c.checkI = 0 := by
  have h5 : c.rβ 5 = false := by show (chk c.l != 0) = false; simp [hc]
  obtain ⟨h0, h1, h2, h3, h4, h6, h7, h8⟩ := head_of c.rβ h h5
  have hk : 1 ≤ c.kind := by have : decide (c.kind < 1) = false := h0; simpa using this
  have hpl : c.placedB = true := h8
  rw [placed_eq c hk, Bool.and_eq_true] at hpl
  have hap : c.apart = false := h7
  have hz : c.lastZ = false := by
    unfold Chg.lastZ
    by_cases e : c.l = []
    · simp [e]
    · have hpos : 0 < c.l.length := by cases hl : c.l with | nil => exact absurd hl e | cons x xs => simp
      have h6' : ((c.l.length - tz c.l c.l.length : Nat) : Int) = (c.l.length : Int) := by
        have : (((c.l.length - tz c.l c.l.length : Nat) : Int) != (c.l.length : Int)) = false := h6
        simpa using this
      have htz : tz c.l c.l.length = 0 := by omega
      have : ¬ c.l.getD (c.l.length - 1) 0 = 0 := fun hl => by have := tz_last hpos hl; omega
      have e2 : (c.l.getD (c.l.length - 1) 0 == 0) = false := by simpa using this
      rw [e2]; simp
  have hd : c.depsI = 0 := by unfold Chg.depsI; rw [hc, hz, hap]; rfl
  have hb : rCheck_tree.eval c.rβ = rCheck_tree.eval (rOf c.ws) := eval_congr (n := 17) (fun i hi => by
    match i, hi with
    | 0, _ => exact h0 | 1, _ => exact h1 | 2, _ => exact h2 | 3, _ => exact h3 | 4, _ => exact h4 | 5, _ => exact h5 | 6, _ => exact h6 | 7, _ => exact h7 | 8, _ => exact h8
    | 9, _ | 10, _ | 11, _ | 12, _ | 13, _ | 14, _ | 15, _ | 16, _ => rfl
    | j + 17, hj => omega) (by rfl)
  have hw := at_all words_all (l := c.ws) rfl
  unfold wordsOk at hw
  rw [← hb, h, show oneKind c.ws = true from oneKind_of _ _] at hw
  have hw' : c.wordsI = 0 := by
    have : toI (words_tree.eval (wOf c.ws)) = 0 := by simpa using hw
    exact this
  unfold Chg.checkI
  have a0 : decide (c.kind < 1) = false := h0
  have a1 : decide (c.kind > 5) = false := h1
  have a2 : c.own.right = true := h2
  have a3 : decide (c.seq < 1) = false := h3
  have a4 : decide (c.seq > c.own.c) = false := h4
  rw [a0, a1, a2, a3, a4, hd, hpl.1, hpl.2, hw']
  rfl

/-- Of a change that is let by. -/
theorem right_of (c : Chg) (h : c.checkI = 0) : (c.node.right = true → c.node.eq c.own = false → c.node.lt c.own = true) ∧ (c.par.right = true → c.par.lt c.own = true) ∧ (c.aft.right = true → c.aft.lt c.own = true) := by
  unfold Chg.checkI at h
  cases h0 : decide (c.kind < 1) with
  | true => rw [h0] at h; cases h
  | false =>
  cases h1 : decide (c.kind > 5) with
  | true => rw [h0, h1] at h; cases h
  | false =>
  cases h2 : c.own.right with
  | false => rw [h0, h1, h2] at h; cases h
  | true =>
  cases h3 : decide (c.seq < 1) with
  | true => rw [h0, h1, h2, h3] at h; cases h
  | false =>
  cases h4 : decide (c.seq > c.own.c) with
  | true => rw [h0, h1, h2, h3, h4] at h; cases h
  | false =>
  cases h5 : c.depsI != 0 with
  | true => rw [h0, h1, h2, h3, h4, h5] at h; simp at h5; exact absurd h h5
  | false =>
  cases h6 : c.nodeB with
  | false => rw [h0, h1, h2, h3, h4, h5, h6] at h; cases h
  | true =>
  cases h7 : c.placeB with
  | false => rw [h0, h1, h2, h3, h4, h5, h6, h7] at h; cases h
  | true =>
  have hk : 1 ≤ c.kind := by simpa using h0
  obtain ⟨f1, f2, f3⟩ := facts_of c hk h6 h7
  have z : ∀ s : St, s.eq ⟨0, 0⟩ = true → s.right = true → False := by
    intro s hs hr
    have := St.eq_iff.1 hs
    subst this
    simp [St.right] at hr
  refine ⟨fun hr he => ?_, fun hr => ?_, fun hr => ?_⟩
  · rcases f1 with f | f | f
    · rw [he] at f; cases f
    · exact (z _ f hr).elim
    · exact f
  · rcases f2 with f | f
    · exact (z _ f hr).elim
    · exact f
  · rcases f3 with f | f
    · exact (z _ f hr).elim
    · exact f
end Go.Proofs.YtkfkpiphbflokaaGreatDoor
