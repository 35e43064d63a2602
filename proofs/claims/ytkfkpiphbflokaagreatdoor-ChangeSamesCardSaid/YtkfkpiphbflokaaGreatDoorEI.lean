/- The engine, part 19: one operation of a region that draws; the region. -/
import Derived.Test.YtkfkpiphbflokaaGreatDoorEH
namespace Go.Eng
open Go.RowKit (Below)
set_option linter.unusedSectionVars false
variable [Sig]

section
variable {P : Program} {h : Hands} {N : Nat} {ops : Array Oper} {id : Nat} {rs : List Rec} {ms : List Nat} {TT : Nat → Tr Value} {HH : Nat → Heap}
variable {w0 : Cx} {base : Nat} {φ0 φ : Emb} {a0 a : Act} {S : Array Bool} {w : World}

/-- The step that is shared: under hidden blocks an operation steps from one heap to another. -/
theorem Inv.step (pl : Plan P h N ops id rs ms TT HH) (ho : HandsOK P h) {F : Fence} (hF : Wide F) {n : Nat} {Q : Exit → Act → World → Prop} {K : Act → World → Prop}
    (inv : Inv P N ops id rs ms TT HH w0 base φ0 a0 S φ a w) {j : Nat} {o : Oper} {r : Rec} (hjo : ops[j]? = some o) (hr : rs[j]? = some r) (hu : S.getD j false = false)
    (hm : ∀ b, (ms.getD j 0).testBit b = true → S.getD b false = true) {c : Cx} {H1 H2 : Heap} (rc : Rel P c base φ H1 w) (hs : stepV P h N ops o (TT j) H1 = some (TT (j + 1), H2))
    (hK : ∀ (φ' : Emb) (tS tS' : Tr Value) (a' : Act) (w' : World), φ.le φ' → Rel P c base φ' H2 w' → TRel φ' N tS' a'.tmps → a'.defers = a.defers → (∀ d, Cur ops rs (TT 0) (fun i => S.getD i false) d (tS.get undef d)) →
      (∀ d, tS'.get undef d = if o.dst = some d then r.v else tS.get undef d) → K a' w') : wpOpIn F n P ops Q j K a w := by
  obtain ⟨tS, ht, hc⟩ := inv.tmps
  have hag := inv.agree pl hjo hu hm hc
  obtain ⟨v, hput, hcong⟩ := stepV_congr hs
  obtain ⟨tS', hp', hg'⟩ := putV_some hput tS v
  have hst := pl.step j o r hjo hr
  refine stepV_sound ho hF (hcong tS hag tS' hp') rc ht hjo fun φ' a' w' hle r2 ht2 hd2 => hK φ' tS tS' a' w' hle r2 ht2 hd2 hc fun d => ?_
  rw [hg' d]
  by_cases hd : o.dst = some d
  · rw [if_pos hd, if_pos hd]
    have e1 := putV_get hput d
    have e2 := putV_get hst.put d
    rw [if_pos hd] at e1 e2
    rw [← e1, e2]
  · rw [if_neg hd, if_neg hd]

open Classical in
/-- One operation that turns nothing. -/
theorem Inv.pure (pl : Plan P h N ops id rs ms TT HH) (ho : HandsOK P h) {F : Fence} (hF : Wide F) {n : Nat} {Q : Exit → Act → World → Prop} {K : Act → World → Prop}
    (inv : Inv P N ops id rs ms TT HH w0 base φ0 a0 S φ a w) {j : Nat} {o : Oper} {r : Rec} (hjo : ops[j]? = some o) (hr : rs[j]? = some r) (hk : r.kind = 0) (hu : S.getD j false = false)
    (hm : ∀ b, (ms.getD j 0).testBit b = true → S.getD b false = true)
    (hK : ∀ φ' a' w', Inv P N ops id rs ms TT HH w0 base φ0 a0 (S.setIfInBounds j true) φ' a' w' → K a' w') : wpOpIn F n P ops Q j K a w := by
  have hst := pl.step j o r hjo hr
  obtain ⟨p, m, hp, hpc, hdead, hmS, hlt, rel⟩ := inv.heap
  -- what is hidden: rows that are there already, and that do not belong to what is ahead
  let Z : Nat → Bool := fun b => decide (∃ i q, rs[i]? = some q ∧ q.kind = 1 ∧ S.getD i false = true ∧ p ≤ i ∧ (ms.getD j 0).testBit i = false ∧ b = id + i)
  have hit : ∀ {i q}, rs[i]? = some q → q.kind = 1 → S.getD i false = true → p ≤ i → (addFloats id m p 0 rs (HH p)).get (id + i) = q.blk := by
    intro i q h1 h2 h3 h4
    have := addFloats_hit (id := id) (m := m) (p := p) rs 0 (HH p) h1 h2 (by rw [Nat.zero_add, hmS i q h1 h2]; exact h3) (by omega)
    simpa using this
  have hit1 : ∀ {i q}, rs[i]? = some q → q.kind = 1 → (ms.getD j 0).testBit i = true → p ≤ i → (addFloats id (ms.getD j 0) p 0 rs (HH p)).get (id + i) = q.blk := by
    intro i q h1 h2 h3 h4
    have := addFloats_hit (id := id) (m := ms.getD j 0) (p := p) rs 0 (HH p) h1 h2 (by rw [Nat.zero_add]; exact h3) (by omega)
    simpa using this
  have hHg : ∀ b, (addFloats id (ms.getD j 0) p 0 rs (HH p)).get b = if Z b = true then .dead else (addFloats id m p 0 rs (HH p)).get b := by
    intro b
    by_cases hz : Z b = true
    · rw [if_pos hz]
      obtain ⟨i, q, h1, h2, h3, h4, h5, rfl⟩ := of_decide_eq_true hz
      rw [addFloats_miss rs 0 _ fun k q' k1 k2 k3 k4 e => by
        have : k = i := by omega
        subst this
        rw [Nat.zero_add, h5] at k3; cases k3]
      exact hdead i q h1 h2 h4
    · rw [if_neg hz]
      by_cases hx : ∃ i q, rs[i]? = some q ∧ q.kind = 1 ∧ S.getD i false = true ∧ p ≤ i ∧ b = id + i
      · obtain ⟨i, q, h1, h2, h3, h4, rfl⟩ := hx
        have hb : (ms.getD j 0).testBit i = true := by
          cases hb : (ms.getD j 0).testBit i with
          | true => rfl
          | false => exact absurd (decide_eq_true ⟨i, q, h1, h2, h3, h4, hb, rfl⟩) hz
        rw [hit h1 h2 h3 h4, hit1 h1 h2 hb h4]
      · rw [addFloats_miss rs 0 _ fun k q' k1 k2 k3 k4 e => hx ⟨k, q', k1, k2, hm k (by simpa using k3), by omega, by omega⟩,
          addFloats_miss rs 0 _ fun k q' k1 k2 k3 k4 e => hx ⟨k, q', k1, k2, by rw [← hmS k q' k1 k2]; simpa using k3, by omega, by omega⟩]
  have hHn : (addFloats id (ms.getD j 0) p 0 rs (HH p)).next = (addFloats id m p 0 rs (HH p)).next := by rw [addFloats_next, addFloats_next]
  obtain ⟨c, rc, back⟩ := rel.hide Z (fun z hz => by
      obtain ⟨i, q, h1, h2, h3, h4, h5, rfl⟩ := of_decide_eq_true hz
      exact ⟨inv.plc i q h1 h2 h3, by rw [hit h1 h2 h3 h4]; exact inv.own i q h1 h2 h3⟩) hHn hHg (fun _ => False)
    (fun b => ∃ i q, rs[i]? = some q ∧ q.kind = 1 ∧ S.getD i false = false ∧ b = id + i) (fun b hb => hb.elim) (by
      rintro b ⟨i, q, h1, h2, h3, rfl⟩
      exact ⟨by rw [addFloats_next]; exact hlt i q h1 h2, inv.unp i q h1 h2 h3⟩)
  have hstep : stepV P h N ops o (TT j) (addFloats id (ms.getD j 0) p 0 rs (HH p)) = some (TT (j + 1), addFloats id (ms.getD j 0) p 0 rs (HH p)) := by
    have hsta := pl.stable j o r p hjo hr hk (by
        rcases hp with rfl | ⟨c, q, e, h1, h2, _⟩
        · exact .inl rfl
        · exact .inr ⟨c, q, e, h1, h2⟩) (fun c q h1 h2 h3 => hpc c q h1 h2 (hm c h3)) (fun c q h1 h2 h3 => by
        cases hb : (ms.getD c 0).testBit j with
        | false => rfl
        | true =>
          -- the chain's operations ahead of p are done
          rcases hp with rfl | ⟨c', q', e, k1, k2, k3⟩
          · omega
          · have hc : S.getD c false = true := by
              by_cases ec : c = c'
              · subst ec; exact k3
              · exact inv.down c' c k3 (pl.chain c' q' c q k1 k2 (by omega) h2 (by omega))
            rw [inv.down c j hc hb] at hu; cases hu)
    rcases hst.what with ⟨_, _, hpure, hun⟩ | ⟨hk', _⟩ | ⟨hk', _⟩
    · unfold stableAt at hsta
      rw [hst.et] at hsta
      unfold stepV
      rw [hst.known]
      cases hw : wantedV ops (TT j) o with
      | false =>
        simp only [cond_true, cond_false]
        have := hst.put
        rw [hun hw] at this
        rw [this]
      | true =>
        rw [hw] at hsta
        simp only [cond_true] at hsta ⊢
        cases hop : opW P h (TT j) (addFloats id (ms.getD j 0) p 0 rs (HH p)) o with
        | none => rw [hop] at hsta; cases hsta
        | some nx =>
          rw [hop] at hsta
          cases nx with
          | val v H1 =>
            simp only at hsta ⊢
            have e1 := sameV_eq hsta
            subst e1
            rw [hst.put, pureOpW_heap (hpure hw) hop]
          | skip _ => cases hsta
          | enter _ _ _ => cases hsta
          | yield _ _ _ => cases hsta
    · omega
    · omega
  refine inv.step pl ho hF hjo hr hu hm rc hstep fun φ' tS tS' a' w' hle r2 ht2 hd2 hc hg => hK φ' a' w' ?_
  obtain ⟨_, bU, b3⟩ := back φ' _ w' hle r2
  have hjl : j < S.size := by rw [inv.size]; exact (Array.getElem?_eq_some_iff.1 hjo).1
  have hset : ∀ {i q}, rs[i]? = some q → q.kind ≠ 0 → (S.setIfInBounds j true).getD i false = S.getD i false := by
    intro i q hq hne
    rw [getD_set hjl, if_neg]
    rintro rfl
    rw [hr] at hq; cases hq; exact hne hk
  refine inv.next pl hjo hr hu hm hc hle hd2 ht2 hg ⟨p, m, ?_, ?_, hdead, ?_, hlt, ?_⟩ (fun e => by omega) ?_
  · rcases hp with rfl | ⟨c, q, e, h1, h2, h3⟩
    · exact .inl rfl
    · exact .inr ⟨c, q, e, h1, h2, by rw [hset h1 (by omega)]; exact h3⟩
  · intro c q h1 h2 h3
    rw [hset h1 (by omega)] at h3
    exact hpc c q h1 h2 h3
  · intro i q h1 h2
    rw [hset h1 (by omega)]
    exact hmS i q h1 h2
  · refine b3 _ hHn.symm fun b => ?_
    by_cases hz : Z b = true
    · rw [if_pos hz]
    · rw [if_neg hz, hHg b, if_neg hz]
  · intro i q h1 h2 h3 h4
    exact (bU _ ⟨i, q, h1, h2, h4, rfl⟩).2

open Classical in
/-- One operation of the last kind. -/
theorem Inv.chained (pl : Plan P h N ops id rs ms TT HH) (ho : HandsOK P h) {F : Fence} (hF : Wide F) {n : Nat} {Q : Exit → Act → World → Prop} {K : Act → World → Prop}
    (inv : Inv P N ops id rs ms TT HH w0 base φ0 a0 S φ a w) {j : Nat} {o : Oper} {r : Rec} (hjo : ops[j]? = some o) (hr : rs[j]? = some r) (hk : r.kind = 2) (hu : S.getD j false = false)
    (hm : ∀ b, (ms.getD j 0).testBit b = true → S.getD b false = true)
    (hK : ∀ φ' a' w', Inv P N ops id rs ms TT HH w0 base φ0 a0 (S.setIfInBounds j true) φ' a' w' → K a' w') : wpOpIn F n P ops Q j K a w := by
  have hst := pl.step j o r hjo hr
  have hjn := (Array.getElem?_eq_some_iff.1 hjo).1
  obtain ⟨p, m, hp, hpc, hdead, hmS, hlt, rel⟩ := inv.heap
  have hjl : j < S.size := by rw [inv.size]; exact hjn
  -- all that is ahead in the text, and that is not pure, is done
  have hahead : ∀ {i q}, i < j → rs[i]? = some q → q.kind ≠ 0 → S.getD i false = true := fun hl hq hne => hm _ (pl.chain j r _ _ hr hk hl hq hne)
  have hpj : p ≤ j := by
    rcases hp with rfl | ⟨c, q, rfl, h1, h2, h3⟩
    · omega
    · rcases Nat.lt_trichotomy c j with hl | he | hl
      · omega
      · subst he; rw [hu] at h3; cases h3
      · have := inv.down c j h3 (pl.chain c q j r h1 h2 hl hr (by omega))
        rw [hu] at this; cases this
  have hnc : ∀ c q, p ≤ c → c < j → rs[c]? = some q → q.kind ≠ 2 := fun c q h1 h2 h3 h4 => by
    have := hpc c q h3 h4 (hahead h2 h3 (by omega))
    omega
  obtain ⟨n1, n2, n3⟩ := pl.between j hpj (by omega) hnc
  let Z : Nat → Bool := fun b => decide (∃ i q, rs[i]? = some q ∧ q.kind = 1 ∧ S.getD i false = true ∧ j < i ∧ b = id + i)
  have hit : ∀ {i q}, rs[i]? = some q → q.kind = 1 → S.getD i false = true → p ≤ i → (addFloats id m p 0 rs (HH p)).get (id + i) = q.blk := by
    intro i q h1 h2 h3 h4
    have := addFloats_hit (id := id) (m := m) (p := p) rs 0 (HH p) h1 h2 (by rw [Nat.zero_add, hmS i q h1 h2]; exact h3) (by omega)
    simpa using this
  have hHg : ∀ b, (HH j).get b = if Z b = true then .dead else (addFloats id m p 0 rs (HH p)).get b := by
    intro b
    by_cases hz : Z b = true
    · rw [if_pos hz]
      obtain ⟨i, q, h1, h2, h3, h4, rfl⟩ := of_decide_eq_true hz
      rw [n3 _ fun k q' k1 k2 k3 k4 e => by omega]
      exact hdead i q h1 h2 (by omega)
    · rw [if_neg hz]
      by_cases hx : ∃ i q, rs[i]? = some q ∧ q.kind = 1 ∧ S.getD i false = true ∧ p ≤ i ∧ b = id + i
      · obtain ⟨i, q, h1, h2, h3, h4, rfl⟩ := hx
        have hij : i < j := by
          rcases Nat.lt_trichotomy i j with hl | he | hl
          · exact hl
          · subst he; rw [hu] at h3; cases h3
          · exact absurd (decide_eq_true ⟨i, q, h1, h2, h3, hl, rfl⟩) hz
        rw [hit h1 h2 h3 h4, n2 i q h1 h2 h4 hij]
      · rw [n3 _ fun k q' k1 k2 k3 k4 e => hx ⟨k, q', k1, k2, hahead k4 k1 (by omega), k3, e⟩,
          addFloats_miss rs 0 _ fun k q' k1 k2 k3 k4 e => hx ⟨k, q', k1, k2, by rw [← hmS k q' k1 k2]; simpa using k3, by omega, by omega⟩]
  have hHn : (HH j).next = (addFloats id m p 0 rs (HH p)).next := by rw [addFloats_next, n1]
  obtain ⟨c, rc, back⟩ := rel.hide Z (fun z hz => by
      obtain ⟨i, q, h1, h2, h3, h4, rfl⟩ := of_decide_eq_true hz
      exact ⟨inv.plc i q h1 h2 h3, by rw [hit h1 h2 h3 (by omega)]; exact inv.own i q h1 h2 h3⟩) hHn hHg
    (fun b => ∃ i q, rs[i]? = some q ∧ q.kind = 1 ∧ j < i ∧ b = id + i)
    (fun b => ∃ i q, rs[i]? = some q ∧ q.kind = 1 ∧ S.getD i false = false ∧ b = id + i) (by
      rintro b ⟨i, q, h1, h2, h3, rfl⟩
      refine ⟨by rw [addFloats_next]; exact hlt i q h1 h2, ?_⟩
      rw [n3 _ fun k q' k1 k2 k3 k4 e => by omega]
      exact hdead i q h1 h2 (by omega)) (by
      rintro b ⟨i, q, h1, h2, h3, rfl⟩
      exact ⟨by rw [addFloats_next]; exact hlt i q h1 h2, inv.unp i q h1 h2 h3⟩)
  have hstep : stepV P h N ops o (TT j) (HH j) = some (TT (j + 1), HH (j + 1)) := by
    rcases hst.what with ⟨hk', _⟩ | ⟨hk', _⟩ | ⟨_, hs⟩
    · omega
    · omega
    · exact hs
  refine inv.step pl ho hF hjo hr hu hm rc hstep fun φ' tS tS' a' w' hle r2 ht2 hd2 hc hg => hK φ' a' w' ?_
  obtain ⟨bD, bU, b3⟩ := back φ' _ w' hle r2
  have hset : ∀ {i q}, rs[i]? = some q → q.kind = 1 → (S.setIfInBounds j true).getD i false = S.getD i false := by
    intro i q hq hne
    rw [getD_set hjl, if_neg]
    rintro rfl
    rw [hr] at hq; cases hq; omega
  refine inv.next pl hjo hr hu hm hc hle hd2 ht2 hg ⟨j + 1, m, .inr ⟨j, r, rfl, hr, hk, by rw [getD_set hjl, if_pos rfl]⟩, ?_, ?_, ?_, ?_, ?_⟩ (fun e => by omega) ?_
  · intro c q h1 h2 h3
    rw [getD_set hjl] at h3
    rcases Nat.lt_trichotomy c j with hl | he | hl
    · omega
    · omega
    · rw [if_neg (by omega)] at h3
      have := inv.down c j h3 (pl.chain c q j r h1 h2 hl hr (by omega))
      rw [hu] at this; cases this
  · intro i q h1 h2 h3
    exact (bD _ ⟨i, q, h1, h2, by omega, rfl⟩).2
  · intro i q h1 h2
    rw [hset h1 h2]
    exact hmS i q h1 h2
  · intro i q h1 h2
    rcases Nat.lt_trichotomy i j with hl | he | hl
    · obtain ⟨x, hx⟩ := inv.plc i q h1 h2 (hahead hl h1 (by omega))
      exact r2.lt (hle _ _ hx)
    · subst he; rw [hr] at h1; cases h1; omega
    · exact (bD _ ⟨i, q, h1, h2, hl, rfl⟩).1
  · refine b3 _ (addFloats_next _ _ _) fun b => ?_
    by_cases hz : Z b = true
    · rw [if_pos hz]
      obtain ⟨i, q, h1, h2, h3, h4, rfl⟩ := of_decide_eq_true hz
      rw [hit h1 h2 h3 (by omega)]
      have := addFloats_hit (id := id) (m := m) (p := j + 1) rs 0 (HH (j + 1)) h1 h2 (by rw [Nat.zero_add, hmS i q h1 h2]; exact h3) (by omega)
      simpa using this
    · rw [if_neg hz]
      exact addFloats_miss rs 0 _ fun k q' k1 k2 k3 k4 e => hz (decide_eq_true ⟨k, q', k1, k2, by rw [← hmS k q' k1 k2]; simpa using k3, by omega, by omega⟩)
  · intro i q h1 h2 h3 h4
    exact (bU _ ⟨i, q, h1, h2, h4, rfl⟩).2

/-- One row of its own. -/
theorem Inv.floated (pl : Plan P h N ops id rs ms TT HH) {F : Fence} (hF : Wide F) {n : Nat} {Q : Exit → Act → World → Prop} {K : Act → World → Prop}
    (inv : Inv P N ops id rs ms TT HH w0 base φ0 a0 S φ a w) (hD : ∀ b, w0.D b → b < id) (hU : ∀ b, w0.U b → b < id) {j : Nat} {o : Oper} {r : Rec} (hjo : ops[j]? = some o) (hr : rs[j]? = some r) (hk : r.kind = 1) (hu : S.getD j false = false)
    (hm : ∀ b, (ms.getD j 0).testBit b = true → S.getD b false = true)
    (hK : ∀ φ' a' w', Inv P N ops id rs ms TT HH w0 base φ0 a0 (S.setIfInBounds j true) φ' a' w' → K a' w') : wpOpIn F n P ops Q j K a w := by
  have hst := pl.step j o r hjo hr
  have hjn := (Array.getElem?_eq_some_iff.1 hjo).1
  obtain ⟨p, m, hp, hpc, hdead, hmS, hlt, rel⟩ := inv.heap
  have hjl : j < S.size := by rw [inv.size]; exact hjn
  obtain ⟨tS, ht, hc⟩ := inv.tmps
  have hag := inv.agree pl hjo hu hm hc
  rcases hst.what with ⟨hk', _⟩ | ⟨_, hw, hv, hH⟩ | ⟨hk', _⟩
  · omega
  · have hpj : p ≤ j := by
      rcases hp with rfl | ⟨c, q, rfl, h1, h2, h3⟩
      · omega
      · rcases Nat.lt_trichotomy c j with hl | he | hl
        · omega
        · subst he; rw [hu] at h3; cases h3
        · have := inv.down c j h3 (pl.chain c q j r h1 h2 hl hr (by omega))
          rw [hu] at this; cases this
    rw [floatV_congr hag.ops] at hv
    have hgk : guardKnown ops tS o = true := by rw [← hag.known]; exact hst.known
    obtain ⟨hown, x, v', w', q1, q2, q3⟩ := floatV_sound rel ht hv (inv.unp j r hr hk hu) (by rw [addFloats_next]; exact hlt j r hr hk) (fun hb => by have := hD _ hb; omega) (fun hb => by have := hU _ hb; omega)
    unfold wpOpIn
    rw [hjo]
    simp only
    rw [wanted_eq ht hgk, ← hag.wanted, hw]
    simp only [if_true]
    refine ⟨fun f _ => hF.fn f, ?_⟩
    have hdef : ∀ c, o.op ≠ .defer c := by
      intro c e
      rw [e] at hv
      simp [floatV] at hv
    rw [Oper.semAt_eq _ _ _ hdef, q1, Oper.uponIn_value]
    obtain ⟨tS', hp', hg'⟩ := putV_some hst.put tS r.v
    have hle : φ.le (φ.add (id + j) x) := Emb.le_add x (inv.unp j r hr hk hu)
    refine hK _ _ _ (inv.next pl hjo hr hu hm hc hle (put_defers _ _ _) (putV_sound hp' (ht.mono hle) q2) hg' ⟨p, m ||| 2 ^ j, ?_, ?_, hdead, ?_, hlt, ?_⟩ (fun _ => ⟨⟨x, Emb.add_same _ _ _⟩, hown⟩) ?_)
    · rcases hp with rfl | ⟨c, q, e, h1, h2, h3⟩
      · exact .inl rfl
      · refine .inr ⟨c, q, e, h1, h2, ?_⟩
        rw [getD_set hjl]
        split
        · rfl
        · exact h3
    · intro c q h1 h2 h3
      rw [getD_set hjl, if_neg (by rintro rfl; rw [hr] at h1; cases h1; omega)] at h3
      exact hpc c q h1 h2 h3
    · intro i q h1 h2
      rw [Nat.testBit_or, Nat.testBit_two_pow, hmS i q h1 h2, getD_set hjl]
      by_cases e : i = j
      · subst e; simp
      · rw [if_neg e]; simp; intro e'; exact absurd e'.symm e
    · refine q3.ext (by rw [addFloats_next, Heap.next_put, addFloats_next]) fun b => ?_
      rw [Heap.get_put]
      by_cases e : b = id + j
      · subst e
        rw [if_pos rfl]
        have := addFloats_hit (id := id) (m := m ||| 2 ^ j) (p := p) rs 0 (HH p) hr hk (by rw [Nat.zero_add, Nat.testBit_or, Nat.testBit_two_pow]; simp) (by omega)
        simpa using this
      · rw [if_neg e]
        by_cases hx : ∃ i q, rs[i]? = some q ∧ q.kind = 1 ∧ S.getD i false = true ∧ p ≤ i ∧ b = id + i
        · obtain ⟨i, q, h1, h2, h3, h4, rfl⟩ := hx
          have e1 := addFloats_hit (id := id) (m := m) (p := p) rs 0 (HH p) h1 h2 (by rw [Nat.zero_add, hmS i q h1 h2]; exact h3) (by omega)
          have e2 := addFloats_hit (id := id) (m := m ||| 2 ^ j) (p := p) rs 0 (HH p) h1 h2 (by rw [Nat.zero_add, Nat.testBit_or, hmS i q h1 h2, h3]; rfl) (by omega)
          rw [Nat.zero_add] at e1 e2
          rw [e1, e2]
        · have m1 : (addFloats id m p 0 rs (HH p)).get b = (HH p).get b := addFloats_miss rs 0 _ fun k q' k1 k2 k3 k4 e' => hx ⟨k, q', k1, k2, by rw [← hmS k q' k1 k2]; simpa using k3, by omega, by omega⟩
          have m2 : (addFloats id (m ||| 2 ^ j) p 0 rs (HH p)).get b = (HH p).get b := addFloats_miss rs 0 _ fun k q' k1 k2 k3 k4 e' => hx ⟨k, q', k1, k2, by
              rw [Nat.zero_add, Nat.testBit_or, Nat.testBit_two_pow, hmS k q' k1 k2] at k3
              simp only [Bool.or_eq_true, decide_eq_true_eq] at k3
              rcases k3 with k3 | k3
              · exact k3
              · subst k3; exact absurd (by omega) e, by omega, by omega⟩
          rw [m1, m2]
    · intro i q h1 h2 h3 h4
      unfold Emb.add
      rw [if_neg (by omega)]
      exact inv.unp i q h1 h2 h4
  · omega

theorem Plan.any (pl : Plan P h N ops id rs ms TT HH) (ho : HandsOK P h) {F : Fence} (hF : Wide F) {n : Nat} {Q : Exit → Act → World → Prop} (hD : ∀ b, w0.D b → b < id) (hU : ∀ b, w0.U b → b < id)
    (hQ : ∀ φ' a' w', φ0.le φ' → Rel P w0 base φ' (HH ops.size) w' → TRel φ' N (TT ops.size) a'.tmps → a'.defers = a0.defers → Q .normal a' w') :
    ∀ (fuel : Nat) {S : Array Bool} {φ : Emb} {a : Act} {w : World}, Inv P N ops id rs ms TT HH w0 base φ0 a0 S φ a w → leftOf (fun i => S.getD i false) ops.size ≤ fuel → wpAnyIn F n P .any ops Q fuel S a w := by
  have done : ∀ {S : Array Bool} {φ : Emb} {a : Act} {w : World}, Inv P N ops id rs ms TT HH w0 base φ0 a0 S φ a w → Region.ready .any ops S = [] → Q .normal a w := by
    intro S φ a w inv hr
    have hall := not_ready inv.size pl.back hr
    obtain ⟨p, m, hp, hpc, hdead, hmS, hlt, rel⟩ := inv.heap
    obtain ⟨tS, ht, hc⟩ := inv.tmps
    have hpn : p ≤ ops.size := by
      rcases hp with rfl | ⟨c, q, rfl, h1, _⟩
      · omega
      · have := (List.getElem?_eq_some_iff.1 h1).1
        rw [pl.len] at this
        omega
    obtain ⟨n1, n2, n3⟩ := pl.between ops.size hpn (Nat.le_refl _) fun c q h1 h2 h3 h4 => by
      have := hpc c q h3 h4 (hall c h2)
      omega
    have hrl : ∀ {i q}, rs[i]? = some q → i < ops.size := fun h1 => by
      have := (List.getElem?_eq_some_iff.1 h1).1
      rw [pl.len] at this
      exact this
    refine hQ φ a w inv.le (rel.ext (by rw [addFloats_next]; exact n1) fun b => ?_) ⟨ht.size, fun d => ?_⟩ inv.defers
    · by_cases hx : ∃ i q, rs[i]? = some q ∧ q.kind = 1 ∧ p ≤ i ∧ b = id + i
      · obtain ⟨i, q, h1, h2, h3, rfl⟩ := hx
        have e1 := addFloats_hit (id := id) (m := m) (p := p) rs 0 (HH p) h1 h2 (by rw [Nat.zero_add, hmS i q h1 h2]; exact hall i (hrl h1)) (by omega)
        rw [Nat.zero_add] at e1
        rw [e1, n2 i q h1 h2 h3 (hrl h1)]
      · rw [n3 _ fun k q' k1 k2 k3 k4 e => hx ⟨k, q', k1, k2, k3, e⟩, addFloats_miss rs 0 _ fun k q' k1 k2 k3 k4 e => hx ⟨k, q', k1, k2, by omega, by omega⟩]
    · have e : (TT ops.size).get undef d = tS.get undef d := (pl.text ops.size (Nat.le_refl _) d).agree (hc d) fun i o hi _ => by
        have hlt := (Array.getElem?_eq_some_iff.1 hi).1
        simp only [hlt, decide_true]
        exact (hall i hlt).symm
      rw [e]; exact ht.get d
  intro fuel
  induction fuel with
  | zero =>
    intro S φ a w inv hl
    have hall := leftOf_zero (S := fun i => S.getD i false) ops.size (by omega)
    have hr : Region.ready .any ops S = [] := by
      cases hc : Region.ready .any ops S with
      | nil => rfl
      | cons j l =>
        obtain ⟨o, h1, h2, _⟩ := mem_ready inv.size (j := j) (by rw [hc]; simp)
        have := hall j (Array.getElem?_eq_some_iff.1 h1).1
        rw [h2] at this; cases this
    exact ⟨hr, done inv hr⟩
  | succ fuel ih =>
    intro S φ a w inv hl
    refine ⟨done inv, fun j hj => ?_⟩
    obtain ⟨o, h1, h2, h3⟩ := mem_ready inv.size hj
    have hjl : j < S.size := by rw [inv.size]; exact (Array.getElem?_eq_some_iff.1 h1).1
    have hm : ∀ b, (ms.getD j 0).testBit b = true → S.getD b false = true := by
      intro b hb
      obtain ⟨e, he, hbe, hx⟩ := pl.mask j o b h1 hb
      have := h3 e he hbe
      rcases hx with rfl | hx
      · exact this
      · exact inv.down e.on b this hx
    have hK : ∀ φ' a' w', Inv P N ops id rs ms TT HH w0 base φ0 a0 (S.setIfInBounds j true) φ' a' w' → wpAnyIn F n P .any ops Q fuel (S.setIfInBounds j true) a' w' := by
      intro φ' a' w' inv'
      refine ih inv' ?_
      have := leftOf_set (S := fun i => S.getD i false) (S' := fun i => (S.setIfInBounds j true).getD i false) (j := j) h2 (by rw [getD_set hjl, if_pos rfl]) (fun i hi => by rw [getD_set hjl, if_neg hi]) ops.size
      rw [if_pos (Array.getElem?_eq_some_iff.1 h1).1] at this
      omega
    obtain ⟨r, hr⟩ := pl.row h1
    rcases (pl.step j o r h1 hr).what with ⟨hk, _⟩ | ⟨hk, _⟩ | ⟨hk, _⟩
    · exact inv.pure pl ho hF h1 hr hk h2 hm hK
    · exact inv.floated pl hF hD hU h1 hr hk h2 hm hK
    · exact inv.chained pl ho hF h1 hr hk h2 hm hK
end

theorem drawV_sound {P : Program} {h : Hands} (ho : HandsOK P h) (hmix : P.follows .mixedOrders = true) : DrawOK P h := by
  intro N ops t t' H H' hd w0 base φ w a F hF n id Q r ht hQ
  obtain ⟨rs, ms, TT, HH, pl, e1, e2, e3, e4⟩ := drawV_plan hd
  refine wpIn_region_any hmix ?_
  have hrl : ∀ {i q}, rs[i]? = some q → i < ops.size := fun h1 => by
    have := (List.getElem?_eq_some_iff.1 h1).1
    rw [pl.len] at this
    exact this
  have hfalse : ∀ i, (Array.replicate ops.size false).getD i false = false := by
    intro i
    simp only [Array.getD_eq_getD_getElem?]
    by_cases hi : i < ops.size
    · simp [hi]
    · simp [hi]
  refine pl.any ho hF (w0 := w0) (base := base) (φ0 := φ) (a0 := a) (fun b hb => (r.res b hb).1) (fun b hb => (r.unp b hb).1) (fun φ' a' w' hle r' ht' hd' => hQ φ' a' w' hle (by rw [← e4]; exact r') (by rw [← e3]; exact ht') hd') ops.size (φ := φ) ?_ (leftOf_all _ _)
  have hH0 : Rel P w0 base φ (HH 0) w.drew := by
    rw [e2]
    have r1 := r.drew
    exact { below := r1.below, keep := r1.keep, gl := r1.gl, ng := r1.ng, low := r1.low, top := fun b hb => r1.top b (by simp at hb; omega), dead := fun b hb => r1.dead b (by simp at hb; omega), glob := r1.glob,
            blk := r1.blk, inj := r1.inj, res := fun b hb => ⟨by have := (r1.res b hb).1; simp; omega, (r1.res b hb).2⟩, unp := fun b hb => ⟨by have := (r1.unp b hb).1; simp; omega, (r1.unp b hb).2⟩, hold := r1.hold }
  have hno : ∀ {i : Nat} {C : Prop}, (Array.replicate ops.size false).getD i false = true → C := fun hi => by rw [hfalse] at hi; cases hi
  refine ⟨by simp, fun i k hi => hno hi, .refl φ, rfl, ⟨t, ht, fun d => .inr ⟨fun j o _ hj => hno hj, by rw [e1]⟩⟩, ⟨0, 0, .inl rfl, fun c q _ _ hc => hno hc, ?_, fun i q _ _ => by rw [hfalse]; simp, ?_, ?_⟩,
    fun i q _ _ hi => hno hi, fun i q _ _ hi => hno hi, fun i q _ _ _ => r.top _ (by omega)⟩
  · intro i q _ _ _
    rw [e2]
    exact r.dead _ (by omega)
  · intro i q h1 _
    rw [e2]
    have := hrl h1
    simp
    omega
  · exact hH0.ext (addFloats_next _ _ _) fun b => addFloats_miss rs 0 _ fun k q _ _ k3 => by simp at k3
end Go.Eng
