/- The engine, part 6: comparing, lengths, appending, copying. -/
import Derived.Test.YtkfkpiphbflokaaGreatDoorE5
namespace Go.Eng
open Go.RowKit (Below)
set_option linter.unusedSectionVars false
variable [Sig]

section
variable {P : Program} {w0 : Cx} {base : Nat} {φ : Emb} {H : Heap} {w : World}

theorem Rel.own_cells (r : Rel P w0 base φ H w) {b : Nat} {pl : Pl} (h : φ b = some pl) {cs : List Value} {el : TypeId} {sz : Nat} {slack : Bool} (hg : H.get b = .cells cs el sz slack false) :
    ∃ c, w.heap[pl.blk]? = some (.cells c el (0, 0)) := by
  have hb := r.blk b pl h
  rw [hg] at hb
  obtain ⟨_, _, _, _, c, fz, h4, _, _, h7⟩ := hb
  obtain ⟨_, rfl⟩ := h7 rfl
  exact ⟨c, h4⟩

theorem run_sameAddr_apart {a b : Addr} (hne : a.block ≠ b.block) {c c' : Array Value} {el el' : TypeId}
    (ha : w.heap[a.block]? = some (.cells c el (0, 0))) (hb : w.heap[b.block]? = some (.cells c' el' (0, 0))) : (sameAddr a b).run P w = .ok false w := by
  have f1 : ∀ o, w.frozen? ⟨a.block, o, none⟩ = false := fun o => by simp [World.frozen?, ha]
  have f2 : ∀ o, w.frozen? ⟨b.block, o, none⟩ = false := fun o => by simp [World.frozen?, hb]
  have f3 : w.frozen? a = false := by simp [World.frozen?, ha]
  have f4 : w.frozen? b = false := by simp [World.frozen?, hb]
  have s1 : w.shape? a.block = some (el, c.size) := by simp [World.shape?, ha]
  have s2 : w.shape? b.block = some (el', c'.size) := by simp [World.shape?, hb]
  simp [sameAddr, hne, f1, f2, f3, f4, noView, viewAt, s1, s2, mayBeOne, stringish]

theorem eqAddr_soundAt (d : Nat) (r : Rel P w0 base φ H w) {t : TypeId} {a a' b b' : Value} {c : Bool} (h : eqAddr P H t a b = some c) (ha : VRel φ a a') (hb : VRel φ b b') :
    (Op.equalIn (d + 1) t a' b').run P w = .ok c w := by
  unfold eqAddr at h
  split at h
  · rename_i e y hu
    obtain rfl := ha.inv_ptrNil
    simp only [Option.some.injEq] at h; subst h
    cases y with
    | none => obtain rfl := hb.inv_ptrNil; simp [Op.equalIn, run_under hu]
    | some q => obtain ⟨_, pl, _, rfl⟩ := hb.inv_ptr; simp [Op.equalIn, run_under hu]
  · rename_i e x hu
    obtain rfl := hb.inv_ptrNil
    obtain ⟨_, pl, _, rfl⟩ := ha.inv_ptr
    simp only [Option.some.injEq] at h; subst h
    simp [Op.equalIn, run_under hu]
  · rename_i e x y hu
    split at h
    · rename_i n hs
      cases hc : (Nat.beq n 0 || x.spot.isSome || y.spot.isSome) with
      | true => rw [hc] at h; cases h
      | false =>
        rw [hc] at h
        simp only [cond_false] at h
        simp only [Bool.or_eq_false_iff] at hc
        have hn : n ≠ 0 := fun e => by rw [e] at hc; simp at hc
        obtain ⟨_, pl, hp, rfl⟩ := ha.inv_ptr
        obtain ⟨_, pl', hp', rfl⟩ := hb.inv_ptr
        have key : ∀ z : Bool, (sameAddr ⟨pl.blk, pl.off + x.off, none⟩ ⟨pl'.blk, pl'.off + y.off, none⟩).run P w = .ok z w →
            (Op.equalIn (d + 1) t (.pointer (some ⟨pl.blk, pl.off + x.off, none⟩)) (.pointer (some ⟨pl'.blk, pl'.off + y.off, none⟩))).run P w = .ok z w := by
          intro z hz
          simp [Op.equalIn, run_under hu, run_size hs, hn, hz]
        apply key
        cases hbl : Nat.beq x.block y.block with
        | true =>
          have e := Nat.eq_of_beq_eq_true hbl
          rw [hbl] at h
          simp only [cond_true, Option.some.injEq] at h
          rw [← e, hp] at hp'
          cases hp'
          subst h
          by_cases ho : x.off = y.off
          · simp [sameAddr, ho]
          · rw [beq_of_ne ho]
            simp [sameAddr, ho]
        | false =>
          rw [hbl] at h
          simp only [cond_false] at h
          have hne : x.block ≠ y.block := fun e => by rw [e] at hbl; simp at hbl
          split at h
          · rename_i hg hg'
            simp only [Option.some.injEq] at h; subst h
            obtain ⟨c1, q1⟩ := r.own_cells hp hg
            obtain ⟨c2, q2⟩ := r.own_cells hp' hg'
            exact run_sameAddr_apart (r.inj _ _ _ _ hne hp hp' (by rw [hg]; rfl) (by rw [hg']; rfl)) q1 q2
          · cases h
    · cases h
  · rename_i e l1 c1 y l2 c2 hu
    obtain ⟨rfl, rfl, rfl⟩ := ha.inv_sliceNil
    simp only [Option.some.injEq] at h; subst h
    cases y with
    | none => obtain ⟨rfl, rfl, rfl⟩ := hb.inv_sliceNil; simp [Op.equalIn, run_under hu]
    | some q => obtain ⟨_, pl, q1, q2, _, rfl, _⟩ := hb.inv_slice; simp [Op.equalIn, run_under hu]
  · rename_i e x l1 c1 l2 c2 hu
    obtain ⟨rfl, rfl, rfl⟩ := hb.inv_sliceNil
    obtain ⟨_, pl, q1, q2, _, rfl, _⟩ := ha.inv_slice
    simp only [Option.some.injEq] at h; subst h
    simp [Op.equalIn, run_under hu]
  · rename_i k e y hu
    obtain rfl := ha.inv_mapNil
    simp only [Option.some.injEq] at h; subst h
    cases y with
    | none => obtain rfl := hb.inv_mapNil; simp [Op.equalIn, run_under hu]
    | some q => obtain ⟨pl, _, rfl⟩ := hb.inv_map; simp [Op.equalIn, run_under hu]
  · rename_i k e x hu
    obtain rfl := hb.inv_mapNil
    obtain ⟨pl, _, rfl⟩ := ha.inv_map
    simp only [Option.some.injEq] at h; subst h
    simp [Op.equalIn, run_under hu]
  · rename_i hu
    cases ha; cases hb
    simp only [Option.some.injEq] at h; subst h
    simp [Op.equalIn, run_under hu]
  · rename_i hu
    cases ha; cases hb
    simp only [Option.some.injEq] at h; subst h
    simp [Op.equalIn, run_under hu]
  · rename_i hu
    cases ha; cases hb
    simp only [Option.some.injEq] at h; subst h
    simp [Op.equalIn, run_under hu]
  · rename_i hu
    cases ha; cases hb
    simp only [Option.some.injEq] at h; subst h
    simp [Op.equalIn, run_under hu]
  · rename_i hu
    cases ha; cases hb
    simp only [Option.some.injEq] at h; subst h
    simp [Op.equalIn, run_under hu]
  · cases h

theorem eqAddr_sound (r : Rel P w0 base φ H w) {t : TypeId} {a a' b b' : Value} {c : Bool} (h : eqAddr P H t a b = some c) (ha : VRel φ a a') (hb : VRel φ b b') :
    (Op.equal t a' b').run P w = .ok c w := eqAddr_soundAt 9999 r h ha hb

/-- The kinds of values for which 'eqAddr' speaks. -/
theorem eqAddr_binOp {t : TypeId} {a a' b b' : Value} {c : Bool} (h : eqAddr P H t a b = some c) (ha : VRel φ a a') (hb : VRel φ b b') (x y : Operand) (op : BinOp) (hop : op = .eql ∨ op = .neq) :
    (eqGuard op t x y a' b').run P w = .ok () w ∧ binOp op t a' b' = (do let z ← Op.equal t a' b'; pure (.bool (if op = .eql then z else !z))) := by
  unfold eqAddr at h
  split at h <;> first
  | (cases h; done)
  | (cases ha <;> cases hb <;> rcases hop with rfl | rfl <;> simp [eqGuard, binOp])

theorem binOpV_sound (r : Rel P w0 base φ H w) {op : BinOp} {t : TypeId} {x y : Operand} {a a' b b' v : Value} (h : binOpV P H op t x y a b = some v) (ha : VRel φ a a') (hb : VRel φ b b') :
    OkV P w0 base φ w (do eqGuard op t x y a' b'; binOp op t a' b') v H := by
  unfold binOpV at h
  cases hf : (flat a && flat b) with
  | true =>
    rw [hf] at h
    simp only [cond_true] at h
    simp only [Bool.and_eq_true] at hf
    rw [flat_eq ha hf.1, flat_eq hb hf.2]
    split at h
    · rename_i u hu
      cases hfu : flat u with
      | false => rw [hfu] at h; cases h
      | true => rw [hfu] at h; cases h; exact .of_flat r hu hfu
    · cases h
  | false =>
    rw [hf] at h
    simp only [cond_false] at h
    cases op <;> simp only at h <;> try cases h
    · split at h
      · rename_i c hc
        simp only [Option.some.injEq] at h; subst h
        obtain ⟨g1, g2⟩ := eqAddr_binOp (w := w) hc ha hb x y .eql (.inl rfl)
        have := eqAddr_sound r hc ha hb
        exact .of_pure r (v' := .bool c) (by simp [g1, g2, this]) (.bool _)
      · cases h
    · split at h
      · rename_i c hc
        simp only [Option.some.injEq] at h; subst h
        obtain ⟨g1, g2⟩ := eqAddr_binOp (w := w) hc ha hb x y .neq (.inr rfl)
        have := eqAddr_sound r hc ha hb
        exact .of_pure r (v' := .bool !c) (by simp [g1, g2, this]) (.bool _)
      · cases h

theorem get_cons {x : TypeId} {l : List TypeId} : ((x :: l).toArray)[0]? = some x := by simp

theorem lenV_sound (r : Rel P w0 base φ H w) {ts : List TypeId} {t : TypeId} {x x' v : Value} (h : lenV P H ts x = some v) (hx : VRel φ x x') :
    OkV P w0 base φ w (Builtin.len_ ts.toArray t #[x']) v H := by
  unfold lenV at h
  cases ts with
  | nil => cases h
  | cons tt ts =>
    simp only at h
    split at h
    · rename_i s hu
      obtain rfl := hx.inv_string
      cases h
      exact .of_pure r (v' := goInt s.size) (by simp [Builtin.len_, run_under hu]) (.int _ _)
    · rename_i n e hu
      cases h
      exact .of_pure r (v' := goInt n) (by simp [Builtin.len_, run_under hu]) (.int _ _)
    · rename_i e a n c hu
      cases h
      cases a with
      | none => obtain ⟨rfl, rfl, rfl⟩ := hx.inv_sliceNil; exact .of_pure r (v' := goInt 0) (by simp [Builtin.len_, run_under hu]) (.int _ _)
      | some q => obtain ⟨_, pl, q1, q2, _, rfl, _⟩ := hx.inv_slice; exact .of_pure r (v' := goInt n) (by simp [Builtin.len_, run_under hu]) (.int _ _)
    · rename_i k e hu
      obtain rfl := hx.inv_mapNil
      cases h
      exact .of_pure r (v' := goInt 0) (by simp [Builtin.len_, run_under hu]) (.int _ _)
    · rename_i k e m hu
      obtain ⟨pl, hp, rfl⟩ := hx.inv_map
      split at h
      · rename_i es clock hg
        cases h
        have hb := r.blk _ pl hp
        rw [hg] at hb
        obtain ⟨_, es', h1, h2⟩ := hb
        have hl : es'.size = es.length := by
          have : ∀ {a b : List MapEntry}, ERels φ a b → b.length = a.length := by intro a b q; induction q <;> simp_all
          simpa using this h2
        exact .of_pure r (v' := goInt es.length) (by simp [Builtin.len_, run_under hu, getObj, Sem.run, h1, hl]) (.int _ _)
      · cases h
    · rename_i arr hu
      split at h
      · rename_i n e hu2
        cases h
        have e2 : ∀ q : Value, (Builtin.len_ (tt :: ts).toArray t #[q]).run P w = .ok (goInt n) w := by
          intro q
          cases q <;> simp [Builtin.len_, run_under hu, run_under hu2]
        exact .of_pure r (v' := goInt n) (e2 _) (.int _ _)
      · cases h
    · cases h

theorem capV_sound (r : Rel P w0 base φ H w) {ts : List TypeId} {t : TypeId} {x x' v : Value} (h : capV P H ts x = some v) (hx : VRel φ x x') :
    OkV P w0 base φ w (Builtin.cap_ ts.toArray t #[x']) v H := by
  unfold capV at h
  cases ts with
  | nil => cases h
  | cons tt ts =>
    simp only at h
    split at h
    · rename_i e l c hu
      obtain ⟨rfl, rfl, rfl⟩ := hx.inv_sliceNil
      cases h
      exact .of_pure r (v' := goInt 0) (by simp [Builtin.cap_, run_under hu]) (.int _ _)
    · rename_i e a l c hu
      obtain ⟨_, pl, a', c', hp, rfl, hl, hc, ha⟩ := hx.inv_slice
      split at h
      · rename_i cs el sz ro hg
        cases h
        have hb := r.blk _ pl hp
        rw [hg] at hb
        have hd := hb.2.2.1 rfl
        have : c' = c := by rw [hc, hd]; simp
        subst this
        exact .of_pure r (v' := goInt c') (by simp [Builtin.cap_, run_under hu]) (.int _ _)
      · cases h
    · cases h

theorem byteCells_flat (s : ByteArray) (n : Nat) : (byteCells s n).all flat0 = true := by
  simp only [byteCells, List.all_map]
  rw [List.all_eq_true]
  intro b _
  rfl

theorem loadCells_zero (a : Addr) : (loadCells a 0).run P w = .ok #[] w := rfl

theorem srcCells_sound (r : Rel P w0 base φ H w) {size n : Nat} {x x' : Value} {cs : List Value} (h : srcCells H size n x = some cs) (hx : VRel φ x x') (hn : ∀ k, srcLen x = some k → n ≤ k) :
    ∃ cs', (Builtin.firstCells size n x').run P w = .ok cs'.toArray w ∧ VRels φ cs cs' := by
  unfold srcCells at h
  split at h
  · rename_i a len cap
    cases hsp : a.spot.isNone with
    | false => rw [hsp] at h; cases h
    | true =>
      rw [hsp] at h
      simp only [cond_true] at h
      obtain ⟨_, pl, a', cap', hp, rfl, hl, hc, ha⟩ := hx.inv_slice
      have hn' := hn len rfl
      rcases ha with e | rfl
      · have e0 : n * size = 0 := by have : n = 0 := by (split at hc <;> omega)
                                     simp [this]
        obtain ⟨cs', q1, q2, q3, q4⟩ := loadN_sound r h hp
        rw [e0] at q3 q4
        have := List.eq_nil_of_length_eq_zero q3
        subst this
        exact ⟨[], by simp [Builtin.firstCells, e0, loadCells_zero], .nil⟩
      · obtain ⟨cs', q1, q2, q3, q4⟩ := loadN_sound r h hp
        exact ⟨cs', by simp [Builtin.firstCells, q1], q2⟩
  · rename_i len cap
    obtain ⟨rfl, rfl, rfl⟩ := hx.inv_sliceNil
    cases h
    exact ⟨[], by simp [Builtin.firstCells], .nil⟩
  · rename_i s
    obtain rfl := hx.inv_string
    cases h
    refine ⟨byteCells s n, ?_, .refl0 φ (byteCells_flat s n)⟩
    simp only [Builtin.firstCells, Sem.run_pure, byteCells]
    congr 1
    rw [← Array.toList_inj]
    simp
  · cases h

theorem srcLen_sound {x x' : Value} {n : Nat} (h : srcLen x = some n) (hx : VRel φ x x') : (Builtin.lenOf x').run P w = .ok n w := by
  unfold srcLen at h
  split at h
  · rename_i a n c
    cases h
    cases a with
    | none => obtain ⟨rfl, rfl, rfl⟩ := hx.inv_sliceNil; rfl
    | some q => obtain ⟨_, pl, q1, q2, _, rfl, _⟩ := hx.inv_slice; rfl
  · rename_i s
    cases h
    obtain rfl := hx.inv_string
    rfl
  · cases h

theorem growBy_le (newLen B : Nat) (hB : newLen + (newLen + 768) / 4 ≤ B) : ∀ (k c : Nat), c ≤ B → Builtin.growBy newLen k c ≤ B
  | 0, c, h => by simpa [Builtin.growBy] using h
  | k + 1, c, h => by
    simp only [Builtin.growBy]
    split
    · exact h
    · exact growBy_le newLen B hB k _ (by omega)
theorem nextslicecap_le {need old : Nat} (h : old < need) : Builtin.nextslicecap need old ≤ 2 * need + 1024 := by
  unfold Builtin.nextslicecap
  split
  · omega
  · split
    · omega
    · exact growBy_le need _ (by omega) 4 old (by omega)

theorem copyV_sound (r : Rel P w0 base φ H w) {ts : List TypeId} {t : TypeId} {d d' s s' : Value} {nx : Nx} (h : copyV P H ts d s = some nx) (hd : VRel φ d d') (hs : VRel φ s s') :
    OkNx P w0 base φ w (do pure (.value (← Builtin.copy_ ts.toArray t #[d', s']))) nx := by
  unfold copyV at h
  cases ts with
  | nil => cases h
  | cons dt ts =>
    simp only at h
    split at h
    · rename_i e hu
      split at h
      · rename_i size b len cap sl hsz hsl
        cases hc : srcCells H size (Nat.min sl len) s with
        | none => rw [hc] at h; cases h
        | some cs =>
          rw [hc] at h
          obtain ⟨cs', q1, q2⟩ := srcCells_sound r hc hs (fun k hk => by rw [hsl] at hk; cases hk; exact Nat.min_le_left _ _)
          have q3 := srcLen_sound (P := P) (w := w) hsl hs
          cases b with
          | none =>
            simp only [Option.some.injEq] at h; subst h
            obtain ⟨rfl, rfl, rfl⟩ := hd.inv_sliceNil
            have e0 : Nat.min sl 0 = 0 := Nat.min_zero sl
            rw [e0] at q1 ⊢
            exact OkV.nx (.of_pure r (v' := goInt 0) (by simp [Builtin.copy_, run_under hu, q3, run_size hsz, q1]) (.int _ _))
          | some a =>
            simp only at h
            obtain ⟨_, pl, a', cap', hp, rfl, hl, hcap, ha⟩ := hd.inv_slice
            cases hg : (a.spot.isNone && oneCells cs) with
            | false => rw [hg] at h; cases h
            | true =>
              rw [hg] at h
              simp only [cond_true] at h
              simp only [Bool.and_eq_true] at hg
              cases hz : Nat.beq (Nat.min sl len) 0 with
              | true =>
                rw [hz] at h
                simp only [cond_true, Option.some.injEq] at h; subst h
                have hz := Nat.eq_of_beq_eq_true hz
                have hcs : cs' = [] := by
                  have hl0 : cs.length = 0 := by
                    unfold srcCells at hc
                    split at hc
                    · rename_i a2 _ _
                      cases hsp : a2.spot.isNone with
                      | false => rw [hsp] at hc; cases hc
                      | true =>
                        rw [hsp] at hc
                        simp only [cond_true, loadN] at hc
                        split at hc
                        · rename_i ks _ _ _ _ _
                          cases hbb : Nat.ble (a2.off + Nat.min sl len * size) ks.length with
                          | false => rw [hbb] at hc; cases hc
                          | true => rw [hbb] at hc; simp only [cond_true, Option.some.injEq] at hc; rw [← hc, hz]; simp
                        · cases hc
                    · cases hc; rfl
                    · cases hc; rw [hz]; simp [byteCells]
                    · cases hc
                  have := q2.length
                  exact List.eq_nil_of_length_eq_zero (by omega)
                subst hcs
                exact OkV.nx (.of_pure r (v' := goInt (Nat.min sl len)) (by simp [Builtin.copy_, run_under hu, q3, run_size hsz, q1, storeCells]) (.int _ _))
              | false =>
                rw [hz] at h
                simp only [cond_false] at h
                have hz : Nat.min sl len ≠ 0 := fun e => by rw [e] at hz; simp at hz
                have hlen : len ≠ 0 := fun e => hz (by subst e; exact Nat.le_zero.1 (Nat.min_le_right _ _))
                have ha' : a' = ⟨pl.blk, pl.off + a.off, none⟩ := ha.resolve_left (by split at hcap <;> omega)
                subst ha'
                cases hst : storeN H a.block a.off cs with
                | none => rw [hst] at h; cases h
                | some H' =>
                  rw [hst] at h
                  simp only [Option.some.injEq] at h; subst h
                  obtain ⟨w', p1, p2⟩ := storeN_sound r hst hg.2 q2 hp
                  exact OkV.nx ⟨φ, goInt (Nat.min sl len), w', .refl φ, by simp [Builtin.copy_, run_under hu, q3, run_size hsz, q1, p1], .int _ _, p2⟩
      · cases h
    · cases h

theorem oneCells_append {a b : List Value} (ha : oneCells a = true) (hb : oneCells b = true) : oneCells (a ++ b) = true := by
  induction a with
  | nil => exact hb
  | cons x xs ih => simp only [oneCells, List.cons_append, Bool.and_eq_true] at ha ⊢; exact ⟨ha.1, ih ha.2⟩
theorem oneCells_rep {z : List Value} (h : oneCells z = true) : ∀ n, oneCells (repCells z n) = true
  | 0 => rfl
  | n + 1 => by simp only [repCells]; exact oneCells_append h (oneCells_rep h n)

theorem clearV_sound (r : Rel P w0 base φ H w) {ts : List TypeId} {t : TypeId} {x x' : Value} {H' : Heap} (h : clearV P H ts x = some H') (hx : VRel φ x x') :
    OkV P w0 base φ w (Builtin.clear_ ts.toArray t #[x']) (.tuple #[]) H' := by
  unfold clearV at h
  split at h
  · rename_i tt ts
    split at h
    · rename_i d l c hu
      cases h
      obtain ⟨rfl, rfl, rfl⟩ := hx.inv_sliceNil
      exact .of_pure r (v' := .tuple #[]) (by simp [Builtin.clear_, run_under hu]) (.tuple .nil)
    · rename_i e a n c hu
      obtain ⟨hsp, pl, a', cap', hp, rfl, hl, hcap, ha⟩ := hx.inv_slice
      cases hn : Nat.beq n 0 with
      | true =>
        rw [hn] at h
        cases h
        have := Nat.eq_of_beq_eq_true hn
        subst this
        exact .of_pure r (v' := .tuple #[]) (by simp [Builtin.clear_, run_under hu]) (.tuple .nil)
      | false =>
        rw [hn] at h
        simp only [cond_false] at h
        have hn0 : n ≠ 0 := fun e => by subst e; simp at hn
        cases hz : zeroT P e with
        | none => rw [hz] at h; cases h
        | some z =>
          rw [hz] at h
          simp only at h
          cases hg : (a.spot.isNone && oneCells z.cells.toList) with
          | false => rw [hg] at h; cases h
          | true =>
            rw [hg] at h
            simp only [cond_true] at h
            simp only [Bool.and_eq_true] at hg
            have ha' : a' = ⟨pl.blk, pl.off + a.off, none⟩ := ha.resolve_left (by split at hcap <;> omega)
            subst ha'
            obtain ⟨w', p1, p2⟩ := storeN_sound r h (oneCells_rep hg.2 n) (rep_rel (zero_rel hz) n) hp
            refine ⟨φ, .tuple #[], w', .refl φ, ?_, .tuple .nil, p2⟩
            have hrep : (Builtin.zeroCells z.cells n).toList = repCells z.cells.toList n := rep_eq z.cells n
            match n, hn0 with
            | k + 1, _ =>
              simp only [Builtin.clear_]
              simp [run_under hu, run_zero hz, hrep, p1]
    · rename_i k v hu
      cases h
      cases hx
      exact .of_pure r (v' := .tuple #[]) (by simp [Builtin.clear_, run_under hu]) (.tuple .nil)
    · cases h
  · cases h

end
end Go.Eng
