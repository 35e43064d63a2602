/- The engine, part 7: append. -/
import Derived.Test.YtkfkpiphbflokaaGreatDoorE6
namespace Go.Eng
open Go.RowKit (Below)
set_option linter.unusedSectionVars false
variable [Sig]

section
variable {P : Program} {w0 : Cx} {base : Nat} {φ : Emb} {H : Heap} {w : World}

theorem noInts_spec {xt : TypeId} {r : List TypeId} (h : noInts P (xt :: r) = true) : ∃ d, P.underlying xt = some d ∧ ∀ k, d ≠ .int k := by
  simp only [noInts] at h
  cases hu : P.underlying xt with
  | none => rw [hu] at h; cases h
  | some d => rw [hu] at h; exact ⟨d, rfl, fun k e => by subst e; cases h⟩

theorem run_isInts {xt : TypeId} {d : TypeDesc} (h : P.underlying xt = some d) (hd : ∀ k, d ≠ .int k) :
    ((do pure ((← underlying xt) matches .int _) : Sem Bool)).run P w = .ok false w := by
  cases d <;> first | (exact absurd rfl (hd _)) | simp [run_under h]

def stay (b : Option Addr) (len size n cap : Nat) (new : List Value) : Sem Value :=
  match b with
  | some a => do storeCells (a.add (len * size)) new; pure (.slice b (len + n) cap)
  | none => pure (.slice b (len + n) cap)

theorem run_append_stay {st : TypeId} {rest : List TypeId} {t e : TypeId} {i : TypeInfo} {b : Option Addr} {len cap n : Nat} {x : Value} {new : List Value}
    (hu : P.underlying st = some (.slice e)) (hi : P.info? e = some i) (hz : noInts P rest = true) (hn : (Builtin.lenOf x).run P w = .ok n w)
    (hf : (Builtin.firstCells i.size n x).run P w = .ok new.toArray w) (hle : len + n ≤ cap) :
    (Builtin.append_ (st :: rest).toArray t #[.slice b len cap, x]).run P w = (stay b len i.size n cap new).run P w := by
  have hs : sizeT P e = some i.size := by simp [sizeT, hi]
  cases rest with
  | nil =>
    unfold Builtin.append_ stay
    simp [run_under hu, run_size hs, hn, hle, hf]
    cases b <;> simp
  | cons xt r =>
    obtain ⟨d, hd, hdn⟩ := noInts_spec hz
    have hz' := run_isInts (w := w) hd hdn
    unfold Builtin.append_ stay
    simp only [Sem.run_bind, run_under hd, Result.andThen_ok, Sem.run_pure] at hz'
    simp [run_under hu, run_size hs, hn, hle, hf, run_under hd]
    cases d <;> first | (exact absurd rfl (hdn _)) | (cases b <;> simp)

theorem run_append_grow {st : TypeId} {rest : List TypeId} {t e : TypeId} {i : TypeInfo} {z : Value} {b : Option Addr} {len cap n : Nat} {x : Value} {old new : List Value}
    (hu : P.underlying st = some (.slice e)) (hi : P.info? e = some i) (hzz : zeroT P e = some z) (hz : noInts P rest = true) (hn : (Builtin.lenOf x).run P w = .ok n w)
    (hf : (Builtin.firstCells i.size n x).run P w.drew = .ok new.toArray w.drew) (ho : (Builtin.firstCells i.size len (.slice b len cap)).run P w.drew = .ok old.toArray w.drew) (hle : ¬ (len + n ≤ cap))
    (hb : (2 * (len + n) + 1024) * i.bytes ≤ 281474976710656) (hb0 : 0 < i.bytes) :
    ∃ k, (Builtin.append_ (st :: rest).toArray t #[.slice b len cap, x]).run P w =
      .ok (.slice (some ⟨w.heap.size, 0, none⟩) (len + n) (len + n + k)) (w.drew.alloc (.cells (old ++ new ++ repCells z.cells.toList k).toArray e)) := by
  have hs : sizeT P e = some i.size := by simp [sizeT, hi]
  obtain ⟨i2, e1, e2, e3, hzs⟩ := zeroT_spec hzz
  rw [hi] at e1; cases e1
  refine ⟨w.tape w.drawn (.appendCap (len + n) cap e) % (2 ^ 63 - (len + n)), ?_⟩
  generalize hk : w.tape w.drawn (.appendCap (len + n) cap e) % (2 ^ 63 - (len + n)) = k
  have hcap : (Question.appendCap (len + n) cap e).cut (w.tape w.drawn (.appendCap (len + n) cap e)) = len + n + k := by rw [← hk]; rfl
  have hch : (choose (.appendCap (len + n) cap e)).run P w = .ok (len + n + k) w.drew := by
    rw [run_choose]
    rw [if_neg (by simp [Question.forced]), hcap]; rfl
  have c2 : ¬ (Builtin.nextslicecap (len + n) cap * i.bytes > 2 ^ 48) := by
    have h1 := nextslicecap_le (need := len + n) (old := cap) (by omega)
    have h2 := Nat.mul_le_mul_right i.bytes h1
    have : (2 : Nat) ^ 48 = 281474976710656 := by decide
    omega
  have hrep := rep_eq z.cells k
  have hrep' : Builtin.zeroCells z.cells (len + n + k - (len + n)) = (repCells z.cells.toList k).toArray := by
    rw [show len + n + k - (len + n) = k by omega, ← hrep]
    rfl
  have hb1 : ¬ i.bytes = 0 := by omega
  have hlt : cap < len + n := by omega
  cases rest with
  | nil =>
    unfold Builtin.append_
    simp [run_under hu, run_size hs, hn, hle, run_info hi, hb1, c2, ho, hf, run_zero hzz, run_newRow]
    rw [if_neg (by simp [Question.forced]), hcap, hrep']
    simp
  | cons xt r =>
    obtain ⟨d, hd, hdn⟩ := noInts_spec hz
    unfold Builtin.append_
    simp [run_under hu, run_size hs, hn, hle, run_info hi, hb1, c2, ho, hf, run_zero hzz, run_newRow, run_under hd]
    cases d <;> first
      | (exact absurd rfl (hdn _))
      | (try simp
         rw [if_neg (by simp [Question.forced]), hcap, hrep']
         simp)

theorem slice_grown {b : Nat} {pl : Pl} {need k : Nat} (h : φ b = some pl) (hn : pl.n = need * pl.sz) (hd : pl.dl = k) : VRel φ (.slice (some ⟨b, 0, none⟩) need need) (.slice (some ⟨pl.blk, pl.off, none⟩) need (need + k)) := by
  have := VRel.slice (φ := φ) (o := 0) (len := need) (cap := need) (cap' := need + k) (a' := ⟨pl.blk, pl.off + 0, none⟩) h (Nat.le_refl _) (by rw [if_pos (by omega), hd]) (Or.inr rfl)
  exact this

theorem append_new {H2 : Heap} (r2 : Rel P w0 base φ H2 w.drew) (hnx : H2.next = H.next) {e : TypeId} {i : TypeInfo} {z : Value} {need k : Nat} {cs cs' : List Value}
    (hi : P.info? e = some i) (hzz : zeroT P e = some z) (hc : VRels φ cs cs') (hl : cs.length = need * i.size) :
    ∃ φ', φ.le φ' ∧ VRel φ' (.slice (some ⟨H.next, 0, none⟩) need need) (.slice (some ⟨w.heap.size, 0, none⟩) need (need + k)) ∧
      Rel P w0 base φ' (newCells H2 cs e i.size true) (w.drew.alloc (.cells (cs' ++ repCells z.cells.toList k).toArray e)) := by
  obtain ⟨i2, e1, e2, e3, hzs⟩ := zeroT_spec hzz
  rw [hi] at e1; cases e1
  have hn := newCells_sound r2 hc e i.size true (repCells z.cells.toList k) k (by rw [rep_length]; simp [hzs]) (by simp)
  refine ⟨_, le_new r2 _, ?_, hn⟩
  have := slice_grown (φ := φ.add H2.next ⟨w.heap.size, 0, cs.length, i.size, k⟩) (need := need) (k := k) (Emb.add_same _ _ _) hl rfl
  rw [hnx] at this
  rw [hnx]
  exact this

theorem loadN_length {b o n : Nat} {cs : List Value} (h : loadN H b o n = some cs) : cs.length = n := by
  unfold loadN at h
  split at h
  · rename_i ks _ _ _ _ _
    cases hb : Nat.ble (o + n) ks.length with
    | false => rw [hb] at h; cases h
    | true =>
      rw [hb] at h
      have := Nat.le_of_ble_eq_true hb
      simp only [cond_true, Option.some.injEq] at h
      subst h; simp; omega
  · cases h

/-- A row that goes on under a new name. -/
theorem Rel.rename (r : Rel P w0 base φ H w) {b : Nat} {pl : Pl} (h : φ b = some pl) (ho : (H.get b).own = true) (x : Blk) (pl' : Pl) (hpl : pl'.blk = pl.blk) {w' : World}
    (hos : w'.os = w.os) (htape : w'.tape = w.tape) (hout : w'.output = w.output) (hsize : w'.heap.size = w.heap.size)
    (hw : ∀ k, k ≠ pl.blk → w'.heap[k]? = w.heap[k]?) (hx : BRel (φ.add H.next pl') base w' pl' x) : Rel P w0 base (φ.add H.next pl') ((H.put b .dead).new x) w' := by
  have r1 : Rel P w0 base φ (H.put b .dead) w' := r.put h ho .dead hos htape hout hsize hw trivial
  have hle := Emb.le_add pl' r.fresh
  have hbn := r.lt h
  refine ⟨r1.below, r1.keep, r1.gl, ?_, r1.low, ?_, ?_, ?_, ?_, ?_,
    fun c hc => by have := r1.res c hc; rw [Heap.next_put] at this; rw [Heap.next_new, Heap.get_new, Heap.next_put, if_neg (by omega)]; exact ⟨by omega, this.2⟩,
    fun c hc => by have := r1.unp c hc; rw [Heap.next_put] at this; rw [Heap.next_new, Heap.next_put]; exact ⟨by omega, by unfold Emb.add; rw [if_neg (by omega)]; exact this.2⟩, r1.hold⟩
  · intro c q hq hl'
    rw [Heap.get_new, Heap.next_put] at hl'
    by_cases e : c = H.next
    · subst e; rw [Emb.add_same] at hq; cases hq; rw [hpl]; exact r.ng b pl h (Blk.live_of_own ho)
    · have hq' : φ c = some q := by unfold Emb.add at hq; rwa [if_neg e] at hq
      rw [if_neg e] at hl'
      exact r1.ng c q hq' hl'
  · intro c hc
    rw [Heap.next_new, Heap.next_put] at hc
    unfold Emb.add
    rw [if_neg (by omega)]
    exact r.top c (by omega)
  · intro c hc
    rw [Heap.next_new, Heap.next_put] at hc
    rw [Heap.get_new, Heap.next_put, if_neg (by omega)]
    exact r1.dead c (by rw [Heap.next_put]; omega)
  · intro g hg; obtain ⟨q, hq, h2⟩ := r.glob g hg; exact ⟨q, hle _ _ hq, h2⟩
  · intro c q hq
    rw [Heap.get_new, Heap.next_put]
    by_cases e : c = H.next
    · subst e
      rw [Emb.add_same] at hq; cases hq
      rw [if_pos rfl]
      exact hx
    · have hq' : φ c = some q := by unfold Emb.add at hq; rwa [if_neg e] at hq
      rw [if_neg e]
      exact (r1.blk c q hq').mono hle
  · intro c c' q q' hne hq hq' ho' hl'
    rw [Heap.get_new, Heap.next_put] at ho' hl'
    by_cases e : c = H.next
    · subst e
      rw [Emb.add_same] at hq; cases hq
      rw [if_neg (fun e' => hne e'.symm)] at hl'
      have hq2 : φ c' = some q' := by unfold Emb.add at hq'; rwa [if_neg (fun e' => hne e'.symm)] at hq'
      rw [Heap.get_put] at hl'
      by_cases e2 : c' = b
      · rw [if_pos e2] at hl'; cases hl'
      · rw [if_neg e2] at hl'
        rw [hpl]
        exact r.inj b c' pl q' (fun e3 => e2 e3.symm) h hq2 ho hl'
    · have hq1 : φ c = some q := by unfold Emb.add at hq; rwa [if_neg e] at hq
      rw [if_neg e] at ho'
      by_cases e' : c' = H.next
      · subst e'
        rw [Emb.add_same] at hq'; cases hq'
        rw [Heap.get_put] at ho'
        by_cases e2 : c = b
        · rw [if_pos e2] at ho'; cases ho'
        · rw [if_neg e2] at ho'
          rw [hpl]
          exact r.inj c b q pl e2 hq1 h ho' (Blk.live_of_own ho)
      · have hq2 : φ c' = some q' := by unfold Emb.add at hq'; rwa [if_neg e'] at hq'
        rw [if_neg e'] at hl'
        exact r1.inj c c' q q' hne hq1 hq2 ho' hl'

theorem appendTo_sound (r : Rel P w0 base φ H w) {st : TypeId} {rest : List TypeId} {t e : TypeId} {i : TypeInfo} {z : Value} {b : Option Addr} {len cap n : Nat} {s' x x' : Value} {new : List Value} {nx : Nx}
    (h : appendTo H e i.size b len cap n new = some nx) (hs : VRel φ (.slice b len cap) s') (hx : VRel φ x x')
    (hu : P.underlying st = some (.slice e)) (hi : P.info? e = some i) (hzz : zeroT P e = some z) (hz : noInts P rest = true) (hsl : srcLen x = some n) (hsc : srcCells H i.size n x = some new)
    (hb : (2 * (len + n) + 1024) * i.bytes ≤ 281474976710656) (hb0 : 0 < i.bytes) (hone : oneCells new = true) (hnl : new.length = n * i.size) :
    OkNx P w0 base φ w (do pure (.value (← Builtin.append_ (st :: rest).toArray t #[s', x']))) nx := by
  have hn := srcLen_sound (P := P) (w := w) hsl hx
  have hle' : ∀ k, srcLen x = some k → n ≤ k := fun k hk => by rw [hsl] at hk; cases hk; exact Nat.le_refl _
  obtain ⟨new1, q1, q2⟩ := srcCells_sound r hsc hx hle'
  obtain ⟨new2, p1, p2⟩ := srcCells_sound r.drew hsc hx hle'
  unfold appendTo at h
  cases b with
  | none =>
    obtain ⟨rfl, rfl, rfl⟩ := hs.inv_sliceNil
    simp only at h
    cases hc : (Nat.beq 0 0 && Nat.beq 0 0) with
    | false => simp at hc
    | true =>
      rw [hc] at h
      simp only [cond_true] at h
      cases hn0 : Nat.beq n 0 with
      | true =>
        rw [hn0] at h
        simp only [cond_true, Option.some.injEq] at h; subst h
        obtain rfl := Nat.eq_of_beq_eq_true hn0
        refine OkV.nx (.of_pure r (v' := .slice none 0 0) ?_ .sliceNil)
        rw [run_append_stay hu hi hz hn q1 (by omega)]
        rfl
      | false =>
        rw [hn0] at h
        simp only [cond_false, Option.some.injEq] at h; subst h
        have hn0' : n ≠ 0 := fun e => by rw [e] at hn0; simp at hn0
        obtain ⟨k, hk⟩ := run_append_grow (t := t) (old := []) (b := none) (len := 0) (cap := 0) hu hi hzz hz hn p1 (by simp [Builtin.firstCells]) (by omega) hb hb0
        obtain ⟨φ', f1, f2, f3⟩ := append_new (k := k) (need := n) r.drew rfl hi hzz p2 hnl
        simp only [Nat.zero_add, List.nil_append] at hk
        exact OkV.nx ⟨φ', _, _, f1, hk, f2, f3⟩
  | some a =>
    obtain ⟨hsp, pl, a', cap', hp, rfl, hl, hcap, ha⟩ := hs.inv_slice
    simp only at h
    cases hg : H.get a.block with
    | cells cs el sz slack ro =>
      rw [hg] at h
      simp only at h
      have hbk := r.blk _ pl hp
      rw [hg] at hbk
      obtain ⟨b1, b2, b3, bm, c, fz, b4, b5, b6, b7⟩ := hbk
      cases hle : Nat.ble (len + n) cap with
      | true =>
        rw [hle] at h
        simp only [cond_true] at h
        have hle2 := Nat.le_of_ble_eq_true hle
        have hle3 : len + n ≤ cap' := by split at hcap <;> omega
        have hst := run_append_stay (t := t) (b := some a') hu hi hz hn q1 hle3
        have hv : VRel φ (.slice (some a) (len + n) cap) (.slice (some a') (len + n) cap') := by
          obtain ⟨ab, ao, as⟩ := a
          simp only at hsp; subst hsp
          exact .slice hp hle2 hcap ha
        cases hn0 : Nat.beq n 0 with
        | true =>
          rw [hn0] at h
          simp only [cond_true, Option.some.injEq] at h; subst h
          obtain rfl := Nat.eq_of_beq_eq_true hn0
          have : new1 = [] := List.eq_nil_of_length_eq_zero (by rw [q2.length, hnl]; simp)
          subst this
          exact OkV.nx (.of_pure r (by rw [hst]; simp [stay, storeCells]) hv)
        | false =>
          rw [hn0] at h
          simp only [cond_false] at h
          have hn0' : n ≠ 0 := fun e => by rw [e] at hn0; simp at hn0
          have ha' := ha.resolve_left (by omega)
          subst ha'
          cases hsn : storeN H a.block (a.off + len * i.size) new with
          | none => rw [hsn] at h; cases h
          | some H' =>
            rw [hsn] at h
            simp only [Option.some.injEq] at h; subst h
            obtain ⟨w', s1, s2⟩ := storeN_sound r hsn hone q2 hp
            refine OkV.nx ⟨φ, _, w', .refl φ, ?_, hv, s2⟩
            rw [hst]
            simp only [stay, Addr.add_none, Sem.run_bind, Sem.run_pure]
            rw [Nat.add_assoc, s1]
            rfl
      | false =>
        rw [hle] at h
        simp only [cond_false] at h
        have hle2 : ¬ len + n ≤ cap := fun e => by rw [Nat.ble_eq_true_of_le e] at hle; cases hle
        cases hln : loadN H a.block a.off (len * i.size) with
        | none => rw [hln] at h; cases h
        | some old =>
          rw [hln] at h
          simp only at h
          have hol := loadN_length hln
          -- what stands in the slice, read where the row is grown
          have hold : ∃ old', (Builtin.firstCells i.size len (.slice (some a') len cap')).run P w.drew = .ok old'.toArray w.drew ∧ VRels φ old old' := by
            obtain ⟨ab, ao, as⟩ := a
            simp only at hsp; subst hsp
            have := srcCells_sound (size := i.size) (n := len) (x := .slice (some ⟨ab, ao, none⟩) len cap) (cs := old) r.drew (by simpa [srcCells] using hln) (.slice hp hl hcap ha) (fun k hk => by simp [srcLen] at hk; omega)
            exact this
          obtain ⟨old', o1, o2⟩ := hold
          cases slack with
          | false =>
            simp only [cond_false, Option.some.injEq] at h; subst h
            have hd := b3 rfl
            have hcap' : cap' = cap := by rw [hcap, hd]; simp
            subst hcap'
            obtain ⟨k, hk⟩ := run_append_grow (t := t) hu hi hzz hz hn p1 o1 hle2 hb hb0
            obtain ⟨φ', f1, f2, f3⟩ := append_new (k := k) (need := len + n) r.drew rfl hi hzz (o2.append p2) (by simp [hol, hnl, Nat.add_mul])
            exact OkV.nx ⟨φ', _, _, f1, hk, f2, f3⟩
          | true =>
            simp only [cond_true] at h
            cases hc : (Nat.beq sz i.size && (Nat.beq el e && (!ro && (reaches a.off cap i.size cs.length && Nat.beq (a.off % i.size) 0)))) with
            | false => rw [hc] at h; cases h
            | true =>
              rw [hc] at h
              simp only [cond_true, Option.some.injEq] at h; subst h
              simp only [Bool.and_eq_true, Bool.not_eq_true'] at hc
              obtain ⟨d1, d2, rfl, d4, d5⟩ := hc
              have d5 := Nat.eq_of_beq_eq_true d5
              have d1 := Nat.eq_of_beq_eq_true d1
              obtain rfl := Nat.eq_of_beq_eq_true d2
              have d4 := Nat.eq_of_beq_eq_true d4
              have hsz : pl.sz = i.size := (b2 rfl).trans d1
              rw [if_pos (by rw [hsz, b1]; exact d4)] at hcap
              obtain ⟨hbase, rfl⟩ := b7 rfl
              have hlive : (H.get a.block).live = true := by rw [hg]; rfl
              have hdead : ∀ {w1 : World}, Rel P w0 base φ H w1 → Rel P w0 base φ (H.put a.block .dead) w1 := fun rr => rr.shut a.block .dead (fun _ _ => trivial) rfl (by simp [Blk.live]) (rr.lt hp)
              have hdeadnx : (H.put a.block .dead).next = H.next := Heap.next_put _ _ _
              by_cases hroom : len + n ≤ cap'
              · -- there was room: the row goes on under a new name
                have hcap0 : cap' ≠ 0 := by omega
                have ha' := ha.resolve_left hcap0
                subst ha'
                have hst := run_append_stay (t := t) (b := some ⟨pl.blk, pl.off + a.off, none⟩) hu hi hz hn q1 hroom
                -- the store
                have hlen1 : new1.length = n * i.size := by rw [q2.length, hnl]
                have hmul : (len + n) * i.size = len * i.size + n * i.size := Nat.add_mul _ _ _
                have hfit : pl.off + (a.off + len * i.size) + 0 + new1.length ≤ c.size := by
                  have h1 : a.off + cap' * i.size ≤ cs.length + pl.dl * i.size := by rw [hcap, Nat.add_mul]; omega
                  have h2 : (len + n) * i.size ≤ cap' * i.size := Nat.mul_le_mul_right _ hroom
                  rw [hsz] at b5
                  omega
                obtain ⟨w', t1, t2, t3, t4, t5, t6, t7⟩ := run_storeCells (P := P) (pl.off + (a.off + len * i.size)) new1 0 w c b4 (by rw [q2.oneCells]; exact hone) hfit
                simp only [Nat.add_zero] at t7 hfit
                have hrun : (stay (some ⟨pl.blk, pl.off + a.off, none⟩) len i.size n cap' new1).run P w = .ok (.slice (some ⟨pl.blk, pl.off + a.off, none⟩) (len + n) cap') w' := by
                  simp only [stay, Addr.add_none, Sem.run_bind, Sem.run_pure, Nat.add_assoc]
                  rw [t1]; rfl
                have hle3 : φ.le (φ.add H.next ⟨pl.blk, pl.off + a.off, (len + n) * i.size, i.size, cap' - (len + n)⟩) := Emb.le_add _ r.fresh
                have hown : (H.get a.block).own = true := by rw [hg]; rfl
                have hlen2 : (old ++ new).length = (len + n) * i.size := by simp [hol, hnl, Nat.add_mul]
                -- what the row holds now
                have hcells : VRels φ (old ++ new) (((splice c.toList (pl.off + (a.off + len * i.size)) new1).drop (pl.off + a.off)).take ((len + n) * i.size)) := by
                  have hb0 := r.blk _ pl hp
                  have hin := splice_inner c.toList (pl.off + a.off) ((len + n) * i.size) (len * i.size) new1 (by omega) (by simp; omega)
                  rw [Nat.add_assoc] at hin
                  rw [hin]
                  -- the old cells
                  have hold2 : VRels φ old ((c.toList.drop (pl.off + a.off)).take (len * i.size)) := by
                    obtain ⟨cs2, u1, u2, u3, u4⟩ := loadN_sound r hln hp
                    have hrl := run_loadCells (P := P) (w := w) b4 (pl.off + a.off) (len * i.size) (by omega)
                    rw [hrl] at u1
                    simp only [Result.ok.injEq, and_true] at u1
                    have : cs2 = (c.toList.drop (pl.off + a.off)).take (len * i.size) := by
                      have := congrArg Array.toList u1
                      simpa using this.symm
                    rw [← this]; exact u2
                  have hsp : splice ((c.toList.drop (pl.off + a.off)).take ((len + n) * i.size)) (len * i.size) new1 = (c.toList.drop (pl.off + a.off)).take (len * i.size) ++ new1 := by
                    unfold splice
                    rw [List.take_take, Nat.min_eq_left (by omega)]
                    have hz2 : (((c.toList.drop (pl.off + a.off)).take ((len + n) * i.size)).length) ≤ len * i.size + new1.length := by
                      rw [List.length_take, hlen1, ← hmul]; exact Nat.min_le_left _ _
                    rw [List.drop_eq_nil_of_le hz2]
                    simp
                  rw [hsp]
                  exact hold2.append q2
                have hren := r.rename hp hown (.cells (old ++ new) el i.size true false) ⟨pl.blk, pl.off + a.off, (len + n) * i.size, i.size, cap' - (len + n)⟩ rfl t2 t3 t4 t5 t6 ⟨hlen2.symm, fun _ => rfl, by simp, by show (pl.off + a.off) % i.size = 0; rw [d1] at bm; rw [Nat.add_mod, bm, d5]; simp, _, (0, 0), t7, ?_, ?_, fun _ => ⟨hbase, rfl⟩⟩
                · refine OkV.nx ⟨_, _, w', hle3, by rw [hst]; exact hrun, ?_, ?_⟩
                  · have := slice_grown (φ := φ.add H.next ⟨pl.blk, pl.off + a.off, (len + n) * i.size, i.size, cap' - (len + n)⟩) (need := len + n) (k := cap' - (len + n)) (Emb.add_same _ _ _) rfl rfl
                    rw [show len + n + (cap' - (len + n)) = cap' by omega] at this
                    exact this
                  · unfold newCells
                    rw [forceL_eq]
                    exact hren
                · rw [hlen2]
                  have h1 : a.off + cap' * i.size ≤ cs.length + pl.dl * i.size := by rw [hcap, Nat.add_mul]; omega
                  have h3 : (len + n) * i.size + (cap' - (len + n)) * i.size = cap' * i.size := by rw [← Nat.add_mul]; congr 1; omega
                  rw [hsz] at b5
                  simp only [List.size_toArray]
                  rw [splice_length _ _ _ (by simpa using hfit)]
                  simp
                  omega
                · rw [hlen2]
                  exact hcells.mono hle3
              · -- a new row
                obtain ⟨k, hk⟩ := run_append_grow (t := t) hu hi hzz hz hn p1 o1 hroom hb hb0
                obtain ⟨φ', f1, f2, f3⟩ := append_new (H := H) (k := k) (need := len + n) (hdead r.drew) hdeadnx hi hzz (o2.append p2) (by simp [hol, hnl, Nat.add_mul])
                exact OkV.nx ⟨φ', _, _, f1, hk, f2, f3⟩
    | _ => rw [hg] at h; cases h

end
end Go.Eng
