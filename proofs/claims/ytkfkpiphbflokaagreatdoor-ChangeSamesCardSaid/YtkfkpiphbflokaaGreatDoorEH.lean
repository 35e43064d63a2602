/- The engine, part 18: a region that draws its order comes to what the text's order comes to. -/
import Derived.Test.YtkfkpiphbflokaaGreatDoorEG
namespace Go.Eng
open Go.RowKit (Below)
set_option linter.unusedSectionVars false
variable [Sig]

/-! ### Who wrote a temporary last -/
def Cur (ops : Array Oper) (rs : List Rec) (t0 : Tr Value) (S : Nat → Bool) (d : Nat) (v : Value) : Prop :=
  (∃ j o r, ops[j]? = some o ∧ rs[j]? = some r ∧ S j = true ∧ o.dst = some d ∧ v = r.v ∧ ∀ i o', j < i → ops[i]? = some o' → S i = true → o'.dst ≠ some d) ∨
  ((∀ j o, ops[j]? = some o → S j = true → o.dst ≠ some d) ∧ v = t0.get undef d)

theorem Cur.agree {ops : Array Oper} {rs : List Rec} {t0 : Tr Value} {S S' : Nat → Bool} {d : Nat} {v v' : Value} (h : Cur ops rs t0 S d v) (h' : Cur ops rs t0 S' d v')
    (hS : ∀ i o, ops[i]? = some o → o.dst = some d → S i = S' i) : v = v' := by
  rcases h with ⟨j, o, r, h1, h2, h3, h4, h5, h6⟩ | ⟨h1, h2⟩
  · rcases h' with ⟨j', o', r', k1, k2, k3, k4, k5, k6⟩ | ⟨k1, k2⟩
    · rcases Nat.lt_trichotomy j j' with hl | he | hl
      · exact absurd k4 (h6 j' o' hl k1 (by rw [hS j' o' k1 k4]; exact k3))
      · subst he
        rw [h2] at k2; cases k2
        rw [h5, k5]
      · exact absurd h4 (k6 j o hl h1 (by rw [← hS j o h1 h4]; exact h3))
    · exact absurd h4 (k1 j o h1 (by rw [← hS j o h1 h4]; exact h3))
  · rcases h' with ⟨j', o', r', k1, k2, k3, k4, k5, k6⟩ | ⟨k1, k2⟩
    · exact absurd k4 (h1 j' o' k1 (by rw [hS j' o' k1 k4]; exact k3))
    · rw [h2, k2]

theorem Cur.put {ops : Array Oper} {rs : List Rec} {t0 : Tr Value} {S S' : Nat → Bool} {d : Nat} {v : Value} {j : Nat} {o : Oper} {r : Rec} (h : Cur ops rs t0 S d v) (ho : ops[j]? = some o) (hr : rs[j]? = some r)
    (hj : S' j = true) (hS : ∀ i, i ≠ j → S' i = S i) (hlast : ∀ i o', j < i → ops[i]? = some o' → S i = true → ∀ d, o.dst = some d → o'.dst ≠ some d) :
    Cur ops rs t0 S' d (if o.dst = some d then r.v else v) := by
  by_cases hd : o.dst = some d
  · rw [if_pos hd]
    exact .inl ⟨j, o, r, ho, hr, hj, hd, rfl, fun i o' hl hi hs => hlast i o' hl hi (by rw [← hS i (by omega)]; exact hs) d hd⟩
  · rw [if_neg hd]
    rcases h with ⟨k, o1, r1, h1, h2, h3, h4, h5, h6⟩ | ⟨h1, h2⟩
    · refine .inl ⟨k, o1, r1, h1, h2, ?_, h4, h5, fun i o' hl hi hs => ?_⟩
      · by_cases e : k = j
        · subst e; exact hj
        · rw [hS k e]; exact h3
      · by_cases e : i = j
        · subst e; rw [ho] at hi; cases hi; exact hd
        · exact h6 i o' hl hi (by rw [← hS i e]; exact hs)
    · refine .inr ⟨fun i o' hi hs => ?_, h2⟩
      by_cases e : i = j
      · subst e; rw [ho] at hi; cases hi; exact hd
      · exact h1 i o' hi (by rw [← hS i e]; exact hs)

section
variable {P : Program} {h : Hands} {N : Nat} {ops : Array Oper} {id : Nat} {rs : List Rec} {ms : List Nat} {TT : Nat → Tr Value} {HH : Nat → Heap}

theorem Plan.row (pl : Plan P h N ops id rs ms TT HH) {j : Nat} {o : Oper} (ho : ops[j]? = some o) : ∃ r, rs[j]? = some r := by
  have := (Array.getElem?_eq_some_iff.1 ho).1
  exact ⟨_, List.getElem?_eq_getElem (by rw [pl.len]; exact this)⟩
theorem Plan.oper (pl : Plan P h N ops id rs ms TT HH) {j : Nat} {r : Rec} (hr : rs[j]? = some r) : ∃ o, ops[j]? = some o := by
  have := (List.getElem?_eq_some_iff.1 hr).1
  exact ⟨_, Array.getElem?_eq_getElem (by rw [← pl.len]; exact this)⟩

theorem Plan.text (pl : Plan P h N ops id rs ms TT HH) : ∀ j, j ≤ ops.size → ∀ d, Cur ops rs (TT 0) (fun i => decide (i < j)) d ((TT j).get undef d)
  | 0, _, d => .inr ⟨by simp, rfl⟩
  | j + 1, hj, d => by
    have ho : ops[j]? = some ops[j] := Array.getElem?_eq_getElem (by omega)
    obtain ⟨r, hr⟩ := pl.row ho
    have hs := pl.step j _ r ho hr
    rw [putV_get hs.put d]
    refine Cur.put (pl.text j (by omega) d) ho hr (by simp) (fun i hi => by simp; omega) (fun i o' hl _ hs => by simp at hs; omega)

/-- Between two operations of the last kind rows of one's own alone come up. -/
theorem Plan.between (pl : Plan P h N ops id rs ms TT HH) {p : Nat} : ∀ j, p ≤ j → j ≤ ops.size → (∀ c q, p ≤ c → c < j → rs[c]? = some q → q.kind ≠ 2) →
    (HH j).next = (HH p).next ∧ (∀ i r, rs[i]? = some r → r.kind = 1 → p ≤ i → i < j → (HH j).get (id + i) = r.blk) ∧
      ∀ b, (∀ i r, rs[i]? = some r → r.kind = 1 → p ≤ i → i < j → b ≠ id + i) → (HH j).get b = (HH p).get b
  | 0, hp, _, _ => by
    obtain rfl : p = 0 := by omega
    exact ⟨rfl, by omega, fun _ _ => rfl⟩
  | j + 1, hp, hj, hc => by
    by_cases hpj : p = j + 1
    · subst hpj; exact ⟨rfl, by omega, fun _ _ => rfl⟩
    · obtain ⟨i1, i2, i3⟩ := pl.between j (by omega) (by omega) fun c q h1 h2 => hc c q h1 (by omega)
      have ho : ops[j]? = some ops[j] := Array.getElem?_eq_getElem (by omega)
      obtain ⟨r, hr⟩ := pl.row ho
      have hs := pl.step j _ r ho hr
      rcases hs.what with ⟨hk, he, _, _⟩ | ⟨hk, _, _, he⟩ | ⟨hk, _⟩
      · rw [he]
        refine ⟨i1, fun i r1 h1 h2 h3 h4 => ?_, fun b hb => i3 b fun i r1 h1 h2 h3 h4 => hb i r1 h1 h2 h3 (by omega)⟩
        by_cases e : i = j
        · subst e; rw [hr] at h1; cases h1; omega
        · exact i2 i r1 h1 h2 h3 (by omega)
      · rw [he]
        refine ⟨by rw [Heap.next_put]; exact i1, fun i r1 h1 h2 h3 h4 => ?_, fun b hb => ?_⟩
        · rw [Heap.get_put]
          by_cases e : i = j
          · subst e; rw [hr] at h1; cases h1; rw [if_pos rfl]
          · rw [if_neg (by omega)]; exact i2 i r1 h1 h2 h3 (by omega)
        · rw [Heap.get_put, if_neg (hb j r hr hk (by omega) (by omega))]
          exact i3 b fun i r1 h1 h2 h3 h4 => hb i r1 h1 h2 h3 (by omega)
      · exact absurd hk (hc j r (by omega) (by omega) hr)

/-- What holds while a region's operations are carried out in a drawn order. -/
structure Inv (P : Program) (N : Nat) (ops : Array Oper) (id : Nat) (rs : List Rec) (ms : List Nat) (TT : Nat → Tr Value) (HH : Nat → Heap) (w0 : Cx) (base : Nat) (φ0 : Emb) (a0 : Act)
    (S : Array Bool) (φ : Emb) (a : Act) (w : World) : Prop where
  size : S.size = ops.size
  down : ∀ i k, S.getD i false = true → (ms.getD i 0).testBit k = true → S.getD k false = true
  le : φ0.le φ
  defers : a.defers = a0.defers
  tmps : ∃ tS, TRel φ N tS a.tmps ∧ ∀ d, Cur ops rs (TT 0) (fun i => S.getD i false) d (tS.get undef d)
  heap : ∃ p m, (p = 0 ∨ ∃ c q, p = c + 1 ∧ rs[c]? = some q ∧ q.kind = 2 ∧ S.getD c false = true) ∧ (∀ c q, rs[c]? = some q → q.kind = 2 → S.getD c false = true → c < p) ∧
    (∀ i r, rs[i]? = some r → r.kind = 1 → p ≤ i → (HH p).get (id + i) = .dead) ∧ (∀ i r, rs[i]? = some r → r.kind = 1 → m.testBit i = S.getD i false) ∧ (∀ i r, rs[i]? = some r → r.kind = 1 → id + i < (HH p).next) ∧
    Rel P w0 base φ (addFloats id m p 0 rs (HH p)) w
  plc : ∀ i r, rs[i]? = some r → r.kind = 1 → S.getD i false = true → ∃ pl, φ (id + i) = some pl
  own : ∀ i r, rs[i]? = some r → r.kind = 1 → S.getD i false = true → r.blk.own = true
  unp : ∀ i r, rs[i]? = some r → r.kind = 1 → S.getD i false = false → φ (id + i) = none

theorem getD_set {S : Array Bool} {j i : Nat} (hj : j < S.size) : (S.setIfInBounds j true).getD i false = if i = j then true else S.getD i false := by
  simp only [Array.getD_eq_getD_getElem?]
  by_cases e : i = j
  · subst e; simp [hj]
  · rw [if_neg e, Array.getElem?_setIfInBounds_ne (fun h => e h.symm)]

theorem mem_ready {S : Array Bool} {j : Nat} (hz : S.size = ops.size) (hm : j ∈ Region.ready .any ops S) : ∃ o, ops[j]? = some o ∧ S.getD j false = false ∧ ∀ e ∈ o.after.toList, Region.binds .any e = true → S.getD e.on false = true := by
  unfold Region.ready at hm
  simp only [List.mem_filter, List.mem_range, Bool.and_eq_true, Bool.not_eq_true'] at hm
  obtain ⟨h1, h2, h3⟩ := hm
  have ho : ops[j]? = some ops[j] := Array.getElem?_eq_getElem h1
  refine ⟨ops[j], ho, ?_, ?_⟩
  · simp only [Array.getD_eq_getD_getElem?] at h2 ⊢
    rw [Array.getElem?_eq_getElem (by omega)] at h2 ⊢
    exact h2
  · rw [ho] at h3
    simp only [Option.map_some, Option.getD_some] at h3
    intro e he hb
    rw [Array.all_eq_true'] at h3
    have := h3 e (by simpa using he)
    rw [hb] at this
    simpa using this

theorem not_ready {S : Array Bool} (hz : S.size = ops.size) (hb : ∀ j o, ops[j]? = some o → ∀ e ∈ o.after.toList, Region.binds .any e = true → e.on < j) (hr : Region.ready .any ops S = []) : ∀ j, j < ops.size → S.getD j false = true := by
  intro j
  induction j using Nat.strongRecOn with
  | ind j ih =>
    intro hj
    cases hc : S.getD j false with
    | true => rfl
    | false =>
      exfalso
      have ho : ops[j]? = some ops[j] := Array.getElem?_eq_getElem hj
      have : j ∈ Region.ready .any ops S := by
        unfold Region.ready
        simp only [List.mem_filter, List.mem_range, Bool.and_eq_true, Bool.not_eq_true']
        refine ⟨hj, ?_, ?_⟩
        · simp only [Array.getD_eq_getD_getElem?] at hc ⊢
          rw [Array.getElem?_eq_getElem (by omega)] at hc ⊢
          exact hc
        · rw [ho]
          simp only [Option.map_some, Option.getD_some]
          rw [Array.all_eq_true']
          intro e he
          cases hbe : Region.binds .any e with
          | false => rfl
          | true =>
            have := hb j _ ho e (by simpa using he) hbe
            simpa using ih e.on this (by omega)
      rw [hr] at this
      cases this

def leftOf (S : Nat → Bool) : Nat → Nat
  | 0 => 0
  | k + 1 => leftOf S k + cond (S k) 0 1
theorem leftOf_set {S S' : Nat → Bool} {j : Nat} (hj : S j = false) (hj' : S' j = true) (h : ∀ i, i ≠ j → S' i = S i) : ∀ k, leftOf S' k + (if j < k then 1 else 0) = leftOf S k
  | 0 => by simp [leftOf]
  | k + 1 => by
    have := leftOf_set hj hj' h k
    simp only [leftOf]
    by_cases e : k = j
    · subst e; rw [hj, hj']; simp only [cond_true, cond_false]; rw [if_neg (by omega)] at this; rw [if_pos (by omega)]; omega
    · rw [h k e]
      by_cases hlt : j < k
      · rw [if_pos hlt] at this; rw [if_pos (by omega)]; omega
      · rw [if_neg hlt] at this; rw [if_neg (by omega)]; omega
theorem leftOf_zero {S : Nat → Bool} : ∀ k, leftOf S k = 0 → ∀ i, i < k → S i = true
  | 0, _, i, hi => by omega
  | k + 1, h, i, hi => by
    simp only [leftOf] at h
    by_cases e : i = k
    · subst e
      cases hs : S i with
      | true => rfl
      | false => rw [hs] at h; simp at h
    · exact leftOf_zero k (by omega) i (by omega)
theorem leftOf_all (S : Nat → Bool) : ∀ k, leftOf S k ≤ k
  | 0 => Nat.le_refl _
  | k + 1 => by
    have := leftOf_all S k
    simp only [leftOf]
    cases S k <;> simp <;> omega

variable {w0 : Cx} {base : Nat} {φ0 φ : Emb} {a0 a : Act} {S : Array Bool} {w : World}

theorem Inv.agree (pl : Plan P h N ops id rs ms TT HH) (inv : Inv P N ops id rs ms TT HH w0 base φ0 a0 S φ a w) {j : Nat} {o : Oper} (ho : ops[j]? = some o) (hu : S.getD j false = false)
    (hm : ∀ b, (ms.getD j 0).testBit b = true → S.getD b false = true) {tS : Tr Value} (hc : ∀ d, Cur ops rs (TT 0) (fun i => S.getD i false) d (tS.get undef d)) : Agree (TT j) tS (o.looksAt ops) := by
  intro d hd
  have hj := (Array.getElem?_eq_some_iff.1 ho).1
  refine (pl.text j (by omega) d).agree (hc d) fun i o' hi hdst => ?_
  rcases Nat.lt_trichotomy i j with hl | he | hl
  · simp only [hl, decide_true]
    cases hmb : (ms.getD j 0).testBit i with
    | true => exact (hm i hmb).symm
    | false => exact absurd hd ((Oper.apart_spec (pl.apart i j o' o hi ho hl hmb)).1 d hdst)
  · subst he; simp [hu]
  · have : ¬ i < j := by omega
    simp only [this, decide_false]
    cases hs : S.getD i false with
    | false => rfl
    | true =>
      exfalso
      cases hmb : (ms.getD i 0).testBit j with
      | true => rw [inv.down i j hs hmb] at hu; cases hu
      | false => exact absurd hd ((Oper.apart_spec (pl.apart j i o o' ho hi hl hmb)).2.2 d hdst)

theorem Inv.last (pl : Plan P h N ops id rs ms TT HH) (inv : Inv P N ops id rs ms TT HH w0 base φ0 a0 S φ a w) {j : Nat} {o : Oper} (ho : ops[j]? = some o) (hu : S.getD j false = false) :
    ∀ i o', j < i → ops[i]? = some o' → S.getD i false = true → ∀ d, o.dst = some d → o'.dst ≠ some d := by
  intro i o' hl hi hs d hd
  cases hmb : (ms.getD i 0).testBit j with
  | true => rw [inv.down i j hs hmb] at hu; cases hu
  | false => exact (Oper.apart_spec (pl.apart j i o o' ho hi hl hmb)).2.1 d hd

theorem Inv.next (pl : Plan P h N ops id rs ms TT HH) (inv : Inv P N ops id rs ms TT HH w0 base φ0 a0 S φ a w) {j : Nat} {o : Oper} {r : Rec} (ho : ops[j]? = some o) (hr : rs[j]? = some r) (hu : S.getD j false = false)
    (hm : ∀ b, (ms.getD j 0).testBit b = true → S.getD b false = true) {tS tS' : Tr Value} (hc : ∀ d, Cur ops rs (TT 0) (fun i => S.getD i false) d (tS.get undef d))
    {φ' : Emb} {a' : Act} {w' : World} (hle : φ.le φ') (hd : a'.defers = a.defers) (ht : TRel φ' N tS' a'.tmps) (hg : ∀ d, tS'.get undef d = if o.dst = some d then r.v else tS.get undef d)
    (hheap : ∃ p m, (p = 0 ∨ ∃ c q, p = c + 1 ∧ rs[c]? = some q ∧ q.kind = 2 ∧ (S.setIfInBounds j true).getD c false = true) ∧ (∀ c q, rs[c]? = some q → q.kind = 2 → (S.setIfInBounds j true).getD c false = true → c < p) ∧
      (∀ i r, rs[i]? = some r → r.kind = 1 → p ≤ i → (HH p).get (id + i) = .dead) ∧ (∀ i r, rs[i]? = some r → r.kind = 1 → m.testBit i = (S.setIfInBounds j true).getD i false) ∧ (∀ i r, rs[i]? = some r → r.kind = 1 → id + i < (HH p).next) ∧
      Rel P w0 base φ' (addFloats id m p 0 rs (HH p)) w')
    (hplc : r.kind = 1 → (∃ q, φ' (id + j) = some q) ∧ r.blk.own = true) (hunp : ∀ i q, rs[i]? = some q → q.kind = 1 → i ≠ j → S.getD i false = false → φ' (id + i) = none) :
    Inv P N ops id rs ms TT HH w0 base φ0 a0 (S.setIfInBounds j true) φ' a' w' := by
  have hj : j < S.size := by rw [inv.size]; exact (Array.getElem?_eq_some_iff.1 ho).1
  refine ⟨by simp [inv.size], ?_, inv.le.trans hle, hd.trans inv.defers, ⟨tS', ht, fun d => ?_⟩, hheap, ?_, ?_, ?_⟩
  · intro i k hi hk
    rw [getD_set hj] at hi ⊢
    split
    · rfl
    · by_cases e : i = j
      · subst e; exact hm k hk
      · rw [if_neg e] at hi; exact inv.down i k hi hk
  · rw [hg d]
    exact (hc d).put ho hr (by rw [getD_set hj, if_pos rfl]) (fun i hi => by rw [getD_set hj, if_neg hi]) (inv.last pl ho hu)
  · intro i q hq hk hs
    rw [getD_set hj] at hs
    by_cases e : i = j
    · subst e; rw [hr] at hq; cases hq; exact (hplc hk).1
    · rw [if_neg e] at hs
      obtain ⟨x, hx⟩ := inv.plc i q hq hk hs
      exact ⟨x, hle _ _ hx⟩
  · intro i q hq hk hs
    rw [getD_set hj] at hs
    by_cases e : i = j
    · subst e; rw [hr] at hq; cases hq; exact (hplc hk).2
    · rw [if_neg e] at hs; exact inv.own i q hq hk hs
  · intro i q hq hk hs
    rw [getD_set hj] at hs
    by_cases e : i = j
    · rw [if_pos e] at hs; cases hs
    · rw [if_neg e] at hs; exact hunp i q hq hk e hs
end
end Go.Eng
