/- The engine, part 5: slicing, comparing, appending, copying. -/
import Derived.Test.YtkfkpiphbflokaaGreatDoorE4
namespace Go.Eng
open Go.RowKit (Below)
set_option linter.unusedSectionVars false
variable [Sig]

section
variable {P : Program} {w0 : Cx} {base : Nat} {φ : Emb} {H : Heap} {w : World}

/-- An optional operand, on both sides. -/
structure ORel (φ : Emb) (v v' : Option Value) : Prop where
  rel : ∀ x x', v = some x → v' = some x' → VRel φ x x'
  some : v.isSome = v'.isSome

theorem bounds3_sound {len cap l h m : Nat} {lo lo' hi hi' mx mx' : Option Value} (hb : bounds3 len cap lo hi mx = some (l, h, m))
    (r1 : ORel φ lo lo') (r2 : ORel φ hi hi') (r3 : ORel φ mx mx') :
    l ≤ h ∧ h ≤ m ∧ m ≤ cap ∧ (mx = none → m = cap) ∧ ∀ (s : Bool) (cap' : Nat), cap ≤ cap' → (Instr.sliceBounds s len cap' lo' hi' mx').run P w = .ok (l, h, if mx.isSome then m else cap') w := by
  unfold bounds3 at hb
  split at hb
  · rename_i m0 h0 l0 e3 e2 e1
    cases hc : (Nat.ble l0 h0 && (Nat.ble h0 m0 && (Nat.ble m0 cap && (mx.isNone || hi.isSome)))) with
    | false => rw [hc] at hb; cases hb
    | true =>
      rw [hc] at hb
      simp only [cond_true, Option.some.injEq, Prod.mk.injEq] at hb
      obtain ⟨rfl, rfl, rfl⟩ := hb
      simp only [Bool.and_eq_true, Bool.or_eq_true] at hc
      obtain ⟨c1, c2, c3, c4⟩ := hc
      have c1 := Nat.le_of_ble_eq_true c1
      have c2 := Nat.le_of_ble_eq_true c2
      have c3 := Nat.le_of_ble_eq_true c3
      refine ⟨c1, c2, c3, fun q => by subst q; simp [optNat] at e3; exact e3.symm, fun s cap' hcc => ?_⟩
      exact run_sliceBounds e3 e2 e1 r1.rel r2.rel r3.rel r1.some r2.some r3.some c1 c2 c3 hcc (fun q => by
        rcases c4 with c4 | c4
        · rw [Option.isNone_iff_eq_none] at c4; rw [c4] at q; cases q
        · exact c4)
  · cases hb

theorem sliceV_sound (r : Rel P w0 base φ H w) {t : TypeId} {x x' v : Value} {lo lo' hi hi' mx mx' : Option Value} (h : sliceV P H t x lo hi mx = some v) (hx : VRel φ x x')
    (r1 : ORel φ lo lo') (r2 : ORel φ hi hi') (r3 : ORel φ mx mx') : OkV P w0 base φ w (Instr.sliceAt t x' lo' hi' mx') v H := by
  unfold sliceV at h
  split at h
  · -- a string
    rename_i s hu
    obtain rfl := hx.inv_string
    cases hn : mx.isNone with
    | false => rw [hn] at h; cases h
    | true =>
      rw [hn] at h
      simp only [cond_true] at h
      rw [Option.isNone_iff_eq_none] at hn
      subst hn
      have hm' : mx' = none := by have := r3.some; cases mx' <;> simp at this ⊢
      subst hm'
      cases hb : bounds3 s.size s.size lo hi none with
      | none => rw [hb] at h; cases h
      | some q =>
        obtain ⟨l, hh, m⟩ := q
        rw [hb] at h
        simp only [Option.some.injEq] at h
        subst h
        obtain ⟨_, _, _, _, hrun⟩ := bounds3_sound (P := P) (w := w) hb r1 r2 r3
        have hr := hrun false s.size (Nat.le_refl _)
        refine .of_pure r (v' := .string (s.extract l hh)) ?_ (.string _)
        simp only [Instr.sliceAt, Sem.run_bind, run_under hu, Result.andThen_ok, Instr.slice]
        simp [hr]
  · -- a nil slice
    rename_i e len cap hu
    obtain ⟨rfl, rfl, rfl⟩ := hx.inv_sliceNil
    split at h
    · rename_i l hh m size hb hs
      simp only [Option.some.injEq] at h
      subst h
      obtain ⟨c1, c2, c3, c4, hrun⟩ := bounds3_sound (P := P) (w := w) hb r1 r2 r3
      have hr := hrun true 0 (Nat.le_refl _)
      obtain rfl : m = 0 := by omega
      obtain rfl : hh = 0 := by omega
      obtain rfl : l = 0 := by omega
      simp at hr
      refine .of_pure r (v' := .slice none 0 0) ?_ .sliceNil
      simp only [Instr.sliceAt, Sem.run_bind, run_under hu, Result.andThen_ok, Instr.slice, hr]
      simp [run_size hs]
    · cases h
  · -- a slice
    rename_i e ad len cap hu
    split at h
    · rename_i l hh m size cs el sz slack ro hb hs hg
      obtain ⟨hsp, pl, a', cap', hp, rfl, hl, hcap, ha⟩ := hx.inv_slice
      obtain ⟨c1, c2, c3, c4, hrun⟩ := bounds3_sound (P := P) (w := w) hb r1 r2 r3
      have hr := hrun true cap' (by split at hcap <;> omega)
      have hbk := r.blk _ pl hp
      rw [hg] at hbk
      obtain ⟨b1, b2, b3, _⟩ := hbk
      have hadd : ∀ k, Addr.add ⟨pl.blk, pl.off + ad.off, none⟩ k = ⟨pl.blk, pl.off + (ad.off + k), none⟩ := fun k => by rw [Addr.add_none, Nat.add_assoc]
      cases slack with
      | true =>
        simp only [cond_true] at h
        cases hc : (Nat.beq size sz && (reaches ad.off cap size cs.length && mx.isNone)) with
        | false => rw [hc] at h; cases h
        | true =>
          rw [hc] at h
          simp only [cond_true, Option.some.injEq] at h
          subst h
          simp only [Bool.and_eq_true] at hc
          obtain ⟨d1, d2, d3⟩ := hc
          obtain rfl := Nat.eq_of_beq_eq_true d1
          have d2 := Nat.eq_of_beq_eq_true d2
          rw [Option.isNone_iff_eq_none] at d3
          subst d3
          have hmc := c4 rfl
          subst hmc
          have hsz := b2 rfl
          subst hsz
          rw [if_pos (by rw [b1]; exact d2)] at hcap
          simp only [Option.isSome_none, Bool.false_eq_true, if_false] at hr
          by_cases hz : cap' = l
          · -- nothing is left: the address stays
            refine .of_pure r (v' := .slice (some a') (hh - l) (cap' - l)) ?_ (.slice hp (by omega) ?_ (.inl (by omega)))
            · simp only [Instr.sliceAt, Sem.run_bind, run_under hu, Result.andThen_ok, Instr.slice, hr]
              simp [run_size hs, hz]
            · rw [if_pos]
              · omega
              · rw [b1, ← d2, Nat.sub_mul]
                have : l * pl.sz ≤ m * pl.sz := Nat.mul_le_mul_right _ (by omega)
                omega
          · have ha' : a' = ⟨pl.blk, pl.off + ad.off, none⟩ := ha.resolve_left (by omega)
            subst ha'
            refine .of_pure r (v' := .slice (some ⟨pl.blk, pl.off + (ad.off + l * pl.sz), none⟩) (hh - l) (cap' - l)) ?_ (.slice hp (by omega) ?_ (.inr rfl))
            · simp only [Instr.sliceAt, Sem.run_bind, run_under hu, Result.andThen_ok, Instr.slice, hr]
              simp [run_size hs, hz, hadd]
            · rw [if_pos]
              · omega
              · rw [b1, ← d2, Nat.sub_mul]
                have : l * pl.sz ≤ m * pl.sz := Nat.mul_le_mul_right _ (by omega)
                omega
      | false =>
        simp only [cond_false, Option.some.injEq] at h
        subst h
        have hd := b3 rfl
        have hcap' : cap' = cap := by rw [hcap, hd]; simp
        subst hcap'
        have hm : (if mx.isSome = true then m else cap') = m := by
          cases mx with
          | none => simp [c4 rfl]
          | some _ => simp
        rw [hm] at hr
        by_cases hz : m = l
        · subst hz
          refine .of_pure r (v' := .slice (some a') (hh - m) (m - m)) ?_ ?_
          · simp only [Instr.sliceAt, Sem.run_bind, run_under hu, Result.andThen_ok, Instr.slice, hr]
            simp [run_size hs]
          · rw [show Nat.beq m m = true from by simp]
            exact .slice hp (by omega) (by rw [hd]; simp) (.inl (by omega))
        · have ha' : a' = ⟨pl.blk, pl.off + ad.off, none⟩ := ha.resolve_left (by omega)
          subst ha'
          refine .of_pure r (v' := .slice (some ⟨pl.blk, pl.off + (ad.off + l * size), none⟩) (hh - l) (m - l)) ?_ ?_
          · simp only [Instr.sliceAt, Sem.run_bind, run_under hu, Result.andThen_ok, Instr.slice, hr]
            simp [run_size hs, hz, hadd]
          · rw [beq_of_ne hz]
            exact slice_exact hp (by omega) hd
    · cases h
  · -- an array behind a pointer
    rename_i n e ad hu
    split at h
    · rename_i l hh m size cs el sz ro hb hs hg
      obtain ⟨hsp, pl, hp, rfl⟩ := hx.inv_ptr
      obtain ⟨c1, c2, c3, c4, hrun⟩ := bounds3_sound (P := P) (w := w) hb r1 r2 r3
      have hr := hrun false n (Nat.le_refl _)
      have hbk := r.blk _ pl hp
      rw [hg] at hbk
      obtain ⟨b1, b2, b3, _⟩ := hbk
      have hadd : ∀ k, Addr.add ⟨pl.blk, pl.off + ad.off, none⟩ k = ⟨pl.blk, pl.off + (ad.off + k), none⟩ := fun k => by rw [Addr.add_none, Nat.add_assoc]
      simp only [Option.some.injEq] at h
      subst h
      have hd := b3 rfl
      have hm : (if mx.isSome = true then m else n) = m := by
        cases mx with
        | none => simp [c4 rfl]
        | some _ => simp
      rw [hm] at hr
      by_cases hz : m = l
      · subst hz
        refine .of_pure r (v' := .slice (some ⟨pl.blk, pl.off + ad.off, none⟩) (hh - m) (m - m)) ?_ ?_
        · simp only [Instr.sliceAt, Sem.run_bind, run_under hu, Result.andThen_ok, Instr.sureAddr, Sem.run_pure, hr]
          simp [run_size hs]
        · rw [show Nat.beq m m = true from by simp]
          exact slice_exact hp (by omega) hd
      · refine .of_pure r (v' := .slice (some ⟨pl.blk, pl.off + (ad.off + l * size), none⟩) (hh - l) (m - l)) ?_ ?_
        · simp only [Instr.sliceAt, Sem.run_bind, run_under hu, Result.andThen_ok, Instr.sureAddr, Sem.run_pure, hr]
          simp [run_size hs, hz, hadd]
        · rw [beq_of_ne hz]
          exact slice_exact hp (by omega) hd
    · cases h
  · cases h

end
end Go.Eng
