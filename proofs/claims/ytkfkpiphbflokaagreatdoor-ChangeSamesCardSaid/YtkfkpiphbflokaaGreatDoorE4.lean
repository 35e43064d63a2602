/- The engine, part 4: places in memory, slices, comparisons. -/
import Derived.Test.YtkfkpiphbflokaaGreatDoorE3
namespace Go.Eng
open Go.RowKit (Below)
set_option linter.unusedSectionVars false
variable [Sig]

section
variable {P : Program} {w0 : Cx} {base : Nat} {φ : Emb} {H : Heap} {w : World}

theorem loadV_pure (r : Rel P w0 base φ H w) {t : TypeId} {b o : Nat} {v x' : Value} (h : loadV P H t b o = some v) (hx : VRel φ (.pointer (some ⟨b, o, none⟩)) x') :
    ∃ v', (Instr.loadAt t x').run P w = .ok v' w ∧ VRel φ v v' := by
  obtain ⟨_, pl, hp, rfl⟩ := hx.inv_ptr
  simp only at hp
  unfold loadV at h
  cases ha : isAggT P t with
  | none => rw [ha] at h; cases h
  | some g =>
    rw [ha] at h
    cases g with
    | true =>
      simp only at h
      cases hs : sizeT P t with
      | none => rw [hs] at h; cases h
      | some n =>
        rw [hs] at h
        simp only at h
        cases hl : loadN H b o n with
        | none => rw [hl] at h; cases h
        | some cs =>
          rw [hl] at h; cases h
          obtain ⟨cs', q1, q2, _, _⟩ := loadN_sound r hl hp
          exact ⟨.agg cs'.toArray, by simp [Instr.loadAt, Instr.sureAddr, loadVar, run_isAgg ha, run_size hs, q1], .agg (by simpa using q2)⟩
    | false =>
      simp only at h
      cases hl : loadN H b o 1 with
      | none => rw [hl] at h; cases h
      | some cs =>
        rw [hl] at h
        obtain ⟨cs', q1, q2, q3, q4⟩ := loadN_sound r hl hp
        match cs, cs', q2, q3, q4 with
        | [u], [u'], .cons hu .nil, _, _ =>
          simp only [Option.some.injEq] at h; subst h
          refine ⟨u', ?_, hu⟩
          simp only [loadCells, loadCellsFrom, Addr.add_none, Nat.add_zero, Sem.run_bind] at q1
          simp only [Instr.loadAt, Instr.sureAddr, loadVar, Sem.run_bind, Sem.run_pure, Result.andThen_ok, run_isAgg ha, Bool.false_eq_true, if_false]
          revert q1
          cases (load ⟨pl.blk, pl.off + o, none⟩).run P w with
          | ok x w2 => intro q; simpa using q
          | halt x w2 => intro q; simp at q

theorem loadV_sound (r : Rel P w0 base φ H w) {t : TypeId} {b o : Nat} {v x' : Value} (h : loadV P H t b o = some v) (hx : VRel φ (.pointer (some ⟨b, o, none⟩)) x') :
    OkV P w0 base φ w (Instr.loadAt t x') v H := let ⟨_, h1, h2⟩ := loadV_pure r h hx; .of_pure r h1 h2

theorem storeV_sound (r : Rel P w0 base φ H w) {t : TypeId} {b o : Nat} {v v' x' : Value} {H' : Heap} (h : storeV P H t b o v = some H') (hx : VRel φ (.pointer (some ⟨b, o, none⟩)) x') (hv : VRel φ v v') :
    OkU P w0 base φ w (Instr.storeAt t x' v') H' := by
  obtain ⟨_, pl, hp, rfl⟩ := hx.inv_ptr
  simp only at hp
  unfold storeV at h
  cases hs : sizeT P t with
  | none => rw [hs] at h; cases h
  | some n =>
    rw [hs] at h
    simp only at h
    cases hc : (Nat.beq v.cells.size n && oneCells v.cells.toList) with
    | false => rw [hc] at h; cases h
    | true =>
      rw [hc] at h
      simp only [cond_true] at h
      simp only [Bool.and_eq_true] at hc
      have e1 := Nat.eq_of_beq_eq_true hc.1
      obtain ⟨w', q1, q2⟩ := storeN_sound r h hc.2 hv.cells hp
      exact ⟨φ, w', .refl φ, by simp [Instr.storeAt, Instr.sureAddr, storeVar, run_size hs, hv.cells_size, e1, q1], q2⟩

theorem fieldAddrV_sound (r : Rel P w0 base φ H w) {s : TypeId} {x x' v : Value} {f : Nat} (h : fieldAddrV P s x f = some v) (hx : VRel φ x x') :
    OkV P w0 base φ w (Instr.fieldAt s x' f) v H := by
  unfold fieldAddrV at h
  split at h
  · rename_i fs a hu
    cases hf : fs[f]? with
    | none => rw [hf] at h; cases h
    | some fd =>
      rw [hf] at h
      simp only at h
      cases hs : sizeT P fd.type with
      | none => rw [hs] at h; cases h
      | some n =>
        rw [hs] at h
        simp only at h
        cases hc : (Nat.beq n 0 || a.spot.isSome) with
        | true => rw [hc] at h; cases h
        | false =>
          rw [hc] at h
          simp only [cond_false, Option.some.injEq] at h
          subst h
          simp only [Bool.or_eq_false_iff] at hc
          have hn : ¬ n = 0 := fun e => by rw [e] at hc; simp at hc
          obtain ⟨hsp, pl, hp, rfl⟩ := hx.inv_ptr
          refine .of_pure r (v' := .pointer (some ⟨pl.blk, pl.off + (a.off + fd.offset), none⟩)) ?_ (.ptr hp)
          simp [Instr.fieldAt, run_under hu, hf, Instr.sureAddr, fieldPlace, run_size hs, hn, Addr.add_none, Nat.add_assoc]
  · cases h

theorem natV_spec {v : Value} {n : Nat} (h : natV v = some n) : ∃ k, v = .int k (n : Int) := by
  unfold natV at h
  split at h
  · cases h; exact ⟨_, rfl⟩
  · cases h

theorem indexAddrV_sound (r : Rel P w0 base φ H w) {t : TypeId} {x x' i i' v : Value} (h : indexAddrV P t x i = some v) (hx : VRel φ x x') (hi : VRel φ i i') :
    OkV P w0 base φ w (Instr.indexAt t x' i') v H := by
  unfold indexAddrV at h
  split at h
  · rename_i e a len cap k hu hk
    obtain ⟨kd, rfl⟩ := natV_spec hk
    obtain rfl := hi.inv_int
    cases hs : sizeT P e with
    | none => rw [hs] at h; cases h
    | some n =>
      rw [hs] at h
      simp only at h
      cases hc : (Nat.blt k len && a.spot.isNone) with
      | false => rw [hc] at h; cases h
      | true =>
        rw [hc] at h
        simp only [cond_true, Option.some.injEq] at h
        subst h
        simp only [Bool.and_eq_true] at hc
        have hlt : k < len := by simpa [Nat.blt_eq] using hc.1
        obtain ⟨hsp, pl, a', cap', hp, rfl, hl, hcap, ha⟩ := hx.inv_slice
        have ha' : a' = ⟨pl.blk, pl.off + a.off, none⟩ := by
          rcases ha with e | e
          · exfalso; split at hcap <;> omega
          · exact e
        subst ha'
        refine .of_pure r (v' := .pointer (some ⟨pl.blk, pl.off + (a.off + k * n), none⟩)) ?_ (.ptr hp)
        have h0 : (0 : Int) ≤ (k : Int) ∧ (k : Int) < (len : Int) := ⟨by omega, by omega⟩
        simp only [Instr.indexAt, asIntOf, Sem.run_bind, Sem.run_pure, Result.andThen_ok, run_under hu]
        simp [h0, run_size hs, Addr.add_none, Nat.add_assoc]
  · rename_i len e a k hu hk
    obtain ⟨kd, rfl⟩ := natV_spec hk
    obtain rfl := hi.inv_int
    cases hs : sizeT P e with
    | none => rw [hs] at h; cases h
    | some n =>
      rw [hs] at h
      simp only at h
      cases hc : (Nat.blt k len && a.spot.isNone) with
      | false => rw [hc] at h; cases h
      | true =>
        rw [hc] at h
        simp only [cond_true, Option.some.injEq] at h
        subst h
        simp only [Bool.and_eq_true] at hc
        have hlt : k < len := by simpa [Nat.blt_eq] using hc.1
        obtain ⟨hsp, pl, hp, rfl⟩ := hx.inv_ptr
        refine .of_pure r (v' := .pointer (some ⟨pl.blk, pl.off + (a.off + k * n), none⟩)) ?_ (.ptr hp)
        simp only [Instr.indexAt, asIntOf, Sem.run_bind, Sem.run_pure, Result.andThen_ok, run_under hu]
        simp [run_size hs, Addr.add_none, Nat.add_assoc, hlt, Instr.sureAddr]
  · cases h

theorem wrap_small {n : Nat} (h : n < 4611686018427387904) : IntKind.i64.wrap (n : Int) = (n : Int) := by
  have e : ((n : Int) % (2 ^ IntKind.i64.bits : Int)) = n := by show (n : Int) % 18446744073709551616 = n; omega
  have e2 : ¬ ((n : Int) ≥ (2 ^ (IntKind.i64.bits - 1) : Int)) := by show ¬ ((n : Int) ≥ 9223372036854775808); omega
  simp only [IntKind.wrap, e, e2, decide_false, Bool.and_false, Bool.false_eq_true, if_false]

theorem makeSliceV_sound (r : Rel P w0 base φ H w) {t : TypeId} {l l' c c' : Value} {nx : Nx} (h : makeSliceV P H t l c = some nx) (hl : VRel φ l l') (hc : VRel φ c c') :
    OkNx P w0 base φ w (do pure (.value (← Instr.makeSlice t l' c'))) nx := by
  unfold makeSliceV at h
  split at h
  · rename_i e n m hu hn hm
    obtain ⟨kn, rfl⟩ := natV_spec hn
    obtain ⟨km, rfl⟩ := natV_spec hm
    obtain rfl := hl.inv_int
    obtain rfl := hc.inv_int
    cases hi : P.info? e with
    | none => rw [hi] at h; cases h
    | some i =>
      rw [hi] at h
      simp only at h
      cases hz : zeroT P e with
      | none => rw [hz] at h; cases h
      | some z =>
        rw [hz] at h
        simp only at h
        cases hb : (Nat.ble n m && Nat.ble (i.bytes * m) 281474976710656 && Nat.blt m 4611686018427387904) with
        | false => rw [hb] at h; cases h
        | true =>
          rw [hb] at h
          simp only [cond_true, Option.some.injEq] at h
          subst h
          simp only [Bool.and_eq_true] at hb
          obtain ⟨⟨b1, b2⟩, b3⟩ := hb
          have b1 := Nat.le_of_ble_eq_true b1
          have b2 := Nat.le_of_ble_eq_true b2
          have b3 : m < 4611686018427387904 := by simpa [Nat.blt_eq] using b3
          obtain ⟨i2, e1, e2, e3, hzs⟩ := zeroT_spec hz
          rw [hi] at e1; cases e1
          have hs : sizeT P e = some i.size := by simp [sizeT, hi]
          refine OkV.nx ⟨_, .slice (some ⟨w.heap.size, 0, none⟩) n m, w.alloc (.cells (repCells z.cells.toList m).toArray e), le_new r _, ?_, slice_exact (Emb.add_same φ H.next ⟨w.heap.size, 0, (repCells z.cells.toList m).length, i.size, 0⟩) b1 rfl, newRow_sound r (rep_rel (zero_rel hz) m) e i.size⟩
          have hrep := rep_eq z.cells m
          rw [hzs] at hrep
          have hrep' : (Array.range (m * i.size)).map (fun x => z.cells[x % i.size]!) = (repCells z.cells.toList m).toArray := by rw [← hrep]
          have w1 : IntKind.i64.wrap (n : Int) = n := wrap_small (by omega)
          have w2 : IntKind.i64.wrap (m : Int) = m := wrap_small b3
          have t1 : ¬ ((m : Int) < 0) := by omega
          have t2 : ¬ ((i.bytes : Int) * (m : Int) > 2 ^ 48) := by
            rw [← Int.natCast_mul]
            generalize i.bytes * m = q at b2
            omega
          have t3 : ¬ ((n : Int) < 0) := by omega
          have t4 : ¬ ((n : Int) > (m : Int)) := by omega
          simp only [Instr.makeSlice, Sem.run_bind, run_under hu, Result.andThen_ok, asInt, asIntOf, Sem.run_pure, run_info hi, w1, w2, t1, t2, t3, t4, decide_false, Bool.or_false, Bool.false_eq_true, if_false, run_askRoom, Int.toNat_natCast, run_size hs]
          by_cases h0 : m * i.size = 0
          · have e1 : repCells z.cells.toList m = [] := List.eq_nil_of_length_eq_zero (by rw [rep_length, Array.length_toList, hzs, h0])
            simp [h0, e1, run_newRow, show Array.range 0 = #[] from rfl]
          · simp only [h0, if_false, Sem.run_bind, run_zero hz, Result.andThen_ok, Sem.run_pure, hzs, hrep', run_newRow]
  · cases h

theorem optNat_spec {v v' : Option Value} {d n : Nat} (h : optNat v d = some n) (hv : ∀ x x', v = some x → v' = some x' → VRel φ x x') (hn : v.isSome = v'.isSome) :
    (v = none ∧ v' = none ∧ n = d) ∨ (∃ k, v = some (.int k (n : Int)) ∧ v' = some (.int k (n : Int))) := by
  cases v with
  | none => simp [optNat] at h; cases v' with
    | none => exact .inl ⟨rfl, rfl, h.symm⟩
    | some x => simp at hn
  | some x =>
    simp only [optNat] at h
    obtain ⟨k, rfl⟩ := natV_spec h
    cases v' with
    | none => simp at hn
    | some x' => exact .inr ⟨k, rfl, by rw [(hv _ _ rfl rfl).inv_int]⟩

theorem run_sliceBound {kd : IntKind} {n y : Nat} (h : n ≤ y) (code : BoundsCode) : (Instr.sliceBound (.int kd (n : Int)) y code).run P w = .ok n w := by
  have : (0 : Int) ≤ (n : Int) ∧ (n : Int) ≤ (y : Int) := ⟨by omega, by omega⟩
  simp [Instr.sliceBound, asIntOf, this]

/-- The three bounds, on both sides. The model's capacity may be greater. -/
theorem run_sliceBounds {s : Bool} {len cap cap' l h m : Nat} {lo lo' hi hi' mx mx' : Option Value}
    (h1 : optNat mx cap = some m) (h2 : optNat hi len = some h) (h3 : optNat lo 0 = some l)
    (r1 : ∀ x x', lo = some x → lo' = some x' → VRel φ x x') (r2 : ∀ x x', hi = some x → hi' = some x' → VRel φ x x') (r3 : ∀ x x', mx = some x → mx' = some x' → VRel φ x x')
    (n1 : lo.isSome = lo'.isSome) (n2 : hi.isSome = hi'.isSome) (n3 : mx.isSome = mx'.isSome)
    (hlh : l ≤ h) (hhm : h ≤ m) (hmc : m ≤ cap) (hcc : cap ≤ cap') (hmax : mx.isSome = true → hi.isSome = true) :
    (Instr.sliceBounds s len cap' lo' hi' mx').run P w = .ok (l, h, if mx.isSome then m else cap') w := by
  have b1 : ∀ k code, (Instr.sliceBound (.int k (m : Int)) cap' code).run P w = .ok m w := fun k code => run_sliceBound (by omega) code
  have b2 : ∀ k code, (Instr.sliceBound (.int k (h : Int)) m code).run P w = .ok h w := fun k code => run_sliceBound hhm code
  have b3 : ∀ k code, (Instr.sliceBound (.int k (h : Int)) cap' code).run P w = .ok h w := fun k code => run_sliceBound (by omega) code
  have b4 : ∀ k code, (Instr.sliceBound (.int k (l : Int)) h code).run P w = .ok l w := fun k code => run_sliceBound hlh code
  unfold Instr.sliceBounds
  rcases optNat_spec h1 r3 n3 with ⟨q1, q2, e3⟩ | ⟨k3, q1, q2⟩ <;>
  rcases optNat_spec h2 r2 n2 with ⟨q3, q4, e2⟩ | ⟨k2, q3, q4⟩ <;>
  rcases optNat_spec h3 r1 n1 with ⟨q5, q6, e1⟩ | ⟨k1, q5, q6⟩ <;>
  subst q1 q2 q3 q4 q5 q6 <;>
  first
  | (simp at hmax; done)
  | (simp only [Sem.run_bind, Sem.run_pure, Result.andThen_ok, b1, b2, b3, b4, Option.isSome_none, Option.isSome_some, Bool.false_eq_true, if_false, if_true]; try simp_all)

end
end Go.Eng
