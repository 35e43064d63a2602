/- The engine, part 9: conversions, calls; every operation. -/
import Derived.Test.YtkfkpiphbflokaaGreatDoorE8
namespace Go.Eng
open Go.RowKit (Below)
set_option linter.unusedSectionVars false
variable [Sig]

section
variable {P : Program} {w0 : Cx} {base : Nat} {φ : Emb} {H : Heap} {w : World}

theorem stringBytesV_sound (r : Rel P w0 base φ H w) (e : TypeId) (s : ByteArray) :
    OkNx P w0 base φ w (do pure (.value (← Conv.stringToBytes e s))) (stringBytesV H e s) := by
  have hf : VRels φ (byteCells s s.size) (byteCells s s.size) := .refl0 φ (byteCells_flat s s.size)
  have hlen : (byteCells s s.size).length = s.size := by simp [byteCells]
  generalize hk : w.tape w.drawn (.appendCap s.size 0 e) % (2 ^ 63 - s.size) = k
  have hcap : (Question.appendCap s.size 0 e).cut (w.tape w.drawn (.appendCap s.size 0 e)) = s.size + k := by rw [← hk]; rfl
  have hch : (choose (.appendCap s.size 0 e)).run P w = .ok (s.size + k) w.drew := by
    rw [run_choose]
    rw [if_neg (by simp [Question.forced]), hcap]; rfl
  have hel : (s.data.map fun b => Value.int .u8 b.toNat) = (byteCells s s.size).toArray := by
    rw [← Array.toList_inj]; simp [byteCells]
  let row : Array Value := (byteCells s s.size).toArray ++ Array.replicate (s.size + k - s.size) (.int .u8 0)
  let w2 : World := w.drew.alloc (.cells row e)
  have hrow : row.size = s.size + k := by simp [row, hlen]
  have hshape : w2.shape? w.heap.size = some (e, row.size) := by
    have : w2.heap[w.drew.heap.size]? = some (.cells row e) := World.alloc_heap_new w.drew _
    have : w2.heap[w.heap.size]? = some (.cells row e) := this
    simp [World.shape?, this]
  let w3 : World := w2.freeze { block := w.heap.size, off := row.size } 1
  have hrun : (Conv.stringToBytes e s).run P w = .ok (.slice (some ⟨w.heap.size, 0, none⟩) s.size (s.size + k)) w3 := by
    simp only [Conv.stringToBytes, Sem.run_bind, hch, Result.andThen_ok, hel, run_newRow]
    show ((markStringish ⟨w.heap.size, 0, none⟩).run P w2).andThen _ = _
    simp only [markStringish, Sem.run_bind, run_shape, Result.andThen_ok, hshape]
    rfl
  let pl : Pl := ⟨w.heap.size, 0, s.size, 1, k⟩
  have r2 : Rel P w0 base (φ.add H.next pl) (H.new (.cells (byteCells s s.size) e 1 true true)) w2 := by
    refine r.drew.new _ _ pl rfl ⟨hlen.symm, fun _ => rfl, by simp, Nat.zero_mod _, row, (0, 0), World.alloc_heap_new w.drew _, ?_, ?_, by simp⟩
    · rw [hrow, hlen]; simp [pl]
    · rw [hlen]
      have : (row.toList.drop pl.off).take s.size = byteCells s s.size := by
        simp [row, pl, hlen]
      rw [this]
      exact hf.mono (Emb.le_add pl r.fresh)
  have r3 : Rel P w0 base (φ.add H.next pl) (H.new (.cells (byteCells s s.size) e 1 true true)) w3 := by
    have hh : ∀ j, j ≠ w.heap.size → w3.heap[j]? = w2.heap[j]? := by
      intro j hj
      simp only [w3, World.freeze]
      rw [if_neg (by simp)]
      simp only [Array.getElem?_modify]
      rw [if_neg (by omega)]
    have hsz : w3.heap.size = w2.heap.size := by
      simp only [w3, World.freeze]
      rw [if_neg (by simp)]
      simp
    have hat : ∃ fz, w3.heap[w.heap.size]? = some (.cells row e fz) := by
      have : w2.heap[w.drew.heap.size]? = some (.cells row e) := World.alloc_heap_new w.drew _
      have h2 : w2.heap[w.heap.size]? = some (.cells row e) := this
      refine ⟨(row.size, row.size + 1), ?_⟩
      simp only [w3, World.freeze]
      rw [if_neg (by simp)]
      simp only [Array.getElem?_modify]
      rw [if_pos trivial, h2]
      rfl
    have hbelow : Below base w2 w3 := ⟨rfl, rfl, rfl, by omega, fun j hj => hh j (by have := r.low; omega)⟩
    have hgl : ∀ k, w0.G k → k ≠ w.heap.size := fun k hk e => by have := r.gl k hk; omega
    refine ⟨r2.below.trans hbelow, fun k hk => (hh k (hgl k hk)).trans (r2.keep k hk), fun k hk => by rw [hsz]; exact r2.gl k hk, r2.ng, by rw [hsz]; exact r2.low, r2.top, r2.dead, r2.glob, ?_, r2.inj, r2.res, r2.unp, r2.hold⟩
    intro b q hq
    by_cases e0 : b = H.next
    · subst e0
      rw [Emb.add_same] at hq; cases hq
      rw [Heap.get_new, if_pos rfl]
      obtain ⟨fz, hfz⟩ := hat
      have := r2.blk H.next pl (Emb.add_same _ _ _)
      rw [Heap.get_new, if_pos rfl] at this
      obtain ⟨q1, q2, q3, qm, c, fz0, q4, q5, q6, q7⟩ := this
      have h2 : w2.heap[w.heap.size]? = some (.cells row e) := World.alloc_heap_new w.drew _
      rw [show pl.blk = w.heap.size from rfl, h2] at q4
      cases q4
      exact ⟨q1, q2, q3, qm, row, fz, hfz, q5, q6, by simp⟩
    · have hq' : φ b = some q := by unfold Emb.add at hq; rwa [if_neg e0] at hq
      refine (r2.blk b q hq).world fun hl => hh _ ?_
      rw [Heap.get_new, if_neg e0] at hl
      have := r.live_size hq' hl
      omega
  refine OkV.nx ⟨φ.add H.next pl, _, w3, le_new r pl, hrun, ?_, ?_⟩
  · exact .slice (a' := ⟨w.heap.size, 0, none⟩) (Emb.add_same φ H.next pl) (Nat.le_refl _) (by simp [pl]) (.inr rfl)
  · rw [forceL_eq]
    exact r3

theorem bytesOfCells_cons {v : Value} {l : List Value} {acc s : ByteArray} (h : bytesOfCells (v :: l) acc = some s) : ∃ n, v = .int .u8 n ∧ bytesOfCells l (acc.push (UInt8.ofNat n.toNat)) = some s := by
  cases v with
  | int k n => cases k with
    | u8 => exact ⟨n, rfl, by simpa [bytesOfCells] using h⟩
    | _ => simp [bytesOfCells] at h
  | _ => simp [bytesOfCells] at h

theorem run_forIn_cells (f : Value → ByteArray → Sem (ForInStep ByteArray)) (hf : ∀ n s, f (.int .u8 n) s = pure (.yield (s.push (UInt8.ofNat n.toNat)))) :
    ∀ (l : List Value) (acc s : ByteArray), bytesOfCells l acc = some s → (forIn l acc f).run P w = .ok s w
  | [], acc, s, h => by simp [bytesOfCells] at h; subst h; rfl
  | v :: l, acc, s, h => by
    obtain ⟨n, rfl, h2⟩ := bytesOfCells_cons h
    have := run_forIn_cells f hf l _ s h2
    simp [hf, this]

theorem run_bytesToString {b o n cap : Nat} {l : List Value} {s : ByteArray} (hl : (loadCells ⟨b, o, none⟩ n).run P w = .ok l.toArray w) (h : bytesOfCells l .empty = some s) :
    (Conv.bytesToString (.slice (some ⟨b, o, none⟩) n cap)).run P w = .ok (.string s) w := by
  unfold Conv.bytesToString
  simp only [Sem.run_bind, hl, Result.andThen_ok, List.forIn_toArray]
  rw [run_forIn_cells _ (fun _ _ => rfl) l .empty s h]
  rfl

theorem bytes_rel {l l' : List Value} (h : VRels φ l l') : ∀ {acc s : ByteArray}, bytesOfCells l acc = some s → bytesOfCells l' acc = some s := by
  induction l generalizing l' with
  | nil => cases h; exact fun h => h
  | cons v l ih =>
    cases h with
    | cons hv ht =>
      intro acc s hb
      obtain ⟨n, rfl, h2⟩ := bytesOfCells_cons hb
      obtain rfl := hv.inv_int
      simp only [bytesOfCells]
      exact ih ht h2

theorem holdsV_spec (r : Rel P w0 base φ H w) {a : Addr} {u : TypeId} (h : holdsV P H a u = true) {pl : Pl} (hp : φ a.block = some pl) :
    ∃ c fz, w.heap[pl.blk]? = some (.cells c u fz) ∧ 0 < P.cellsOf u ∧ (pl.off + a.off) % P.cellsOf u = 0 ∧ pl.off + a.off + P.cellsOf u ≤ c.size := by
  have hb := r.blk _ pl hp
  unfold holdsV at h
  cases hg : H.get a.block with
  | cells cs el sz slack ro =>
    rw [hg] at h hb
    simp only [Bool.and_eq_true] at h
    obtain ⟨d1, d2, d3, d4, d5⟩ := h
    obtain rfl := Nat.eq_of_beq_eq_true d1
    have d2 : 0 < P.cellsOf el := by simpa [Nat.blt_eq] using d2
    have d3 := Nat.eq_of_beq_eq_true d3
    have d4 := Nat.eq_of_beq_eq_true d4
    have d5 := Nat.le_of_ble_eq_true d5
    obtain ⟨h1, h2, h3, hm, c, fz, h4, h5, h6, h7⟩ := hb
    refine ⟨c, fz, h4, d2, ?_, by omega⟩
    rw [d3] at hm
    rw [Nat.add_mod, hm, d4]; simp
  | _ => rw [hg] at h; cases h

theorem rowAt_direct {e : TypeId} {count off n : Nat} {fits : TypeId → Bool} (d : Nat) (hs : 0 < P.cellsOf e) (hm : off % P.cellsOf e = 0) (hc : off / P.cellsOf e + n ≤ count) (hf : fits e = true) : rowAt P fits (d + 1) e count off n = true := by
  unfold rowAt
  simp only [hm, hf]
  rw [if_neg (by omega)]
  simp [hc]
theorem sameLayout_self (d : Nat) (t : TypeId) : sameLayout P (d + 1) t t = true := by unfold sameLayout; simp
theorem depth_succ : ∃ d, P.depth = d + 1 := ⟨2 * (P.types.size + Made.depth) + 1, rfl⟩

theorem run_variablesAt {b o : Nat} {u : TypeId} {n : Nat} {c : Array Value} {fz : Nat × Nat} (hc : w.heap[b]? = some (.cells c u fz)) (hs : 0 < P.cellsOf u) (hm : o % P.cellsOf u = 0) (hn : o / P.cellsOf u + n ≤ c.size / P.cellsOf u) :
    (variablesAt ⟨b, o, none⟩ u n).run P w = .ok true w := by
  have hsh : w.shape? b = some (u, c.size) := by simp [World.shape?, hc]
  simp only [variablesAt, Sem.run_bind, run_program, Result.andThen_ok, run_shape, hsh, Sem.run_pure]
  obtain ⟨d, hd⟩ := depth_succ (P := P)
  have h1 : sameLayout P P.depth u u = true := by rw [hd]; exact sameLayout_self d u
  have : liesAt P P.depth u (c.size / P.cellsOf u) o u n = true := by
    rw [hd]
    unfold liesAt
    rw [hd] at h1
    rw [hd, rowAt_direct (fits := fun x => sameLayout P (d + 1) x u) d hs hm hn h1]
    rfl
  rw [this]

theorem run_seenAt {b o : Nat} {u : TypeId} {c : Array Value} {fz : Nat × Nat} (hc : w.heap[b]? = some (.cells c u fz)) : (Conv.seenAt ⟨b, o, none⟩).run P w = .ok ⟨b, o, none⟩ w := by
  have hsh : w.shape? b = some (u, c.size) := by simp [World.shape?, hc]
  simp [Conv.seenAt, viewAt, hsh]

theorem size_of_cells {u : TypeId} (h : 0 < P.cellsOf u) : sizeT P u = some (P.cellsOf u) := by
  unfold Program.cellsOf at h ⊢
  unfold sizeT
  cases hi : P.info? u with
  | none => rw [hi] at h; simp at h
  | some i => rfl

theorem convertV_sound (r : Rel P w0 base φ H w) {src dst : TypeId} {x x' : Value} {nx : Nx} (h : convertV P H src dst x = some nx) (hx : VRel φ x x') :
    OkNx P w0 base φ w (do pure (.value (← convert src dst x'))) nx := by
  unfold convertV at h
  split at h
  · rename_i d e s hu1 hu2
    obtain rfl := hx.inv_string
    split at h
    · rename_i hue
      cases hb : Nat.blt s.size 4611686018427387904 with
      | false => rw [hb] at h; cases h
      | true =>
        rw [hb] at h
        simp only [cond_true, Option.some.injEq] at h
        subst h
        have hst := stringBytesV_sound r e s
        have e1 : (do pure (.value (← convert src dst (.string s))) : Sem Next).run P w = (do pure (.value (← Conv.stringToBytes e s)) : Sem Next).run P w := by
          cases d <;> simp [convert, run_under hu1, run_under hu2, run_under hue]
        unfold stringBytesV OkNx at hst ⊢
        rw [e1]; exact hst
    · cases h
  · rename_i e l c hu1 hu2
    obtain ⟨rfl, rfl, rfl⟩ := hx.inv_sliceNil
    split at h
    · rename_i hue
      cases h
      exact OkV.nx (.of_pure r (v' := .string .empty) (by simp [convert, run_under hu1, run_under hu2, run_under hue, Conv.bytesToString]) (.string _))
    · cases h
  · rename_i e a len cap hu1 hu2
    obtain ⟨hsp, pl, a', cap', hp, rfl, hl, hcap, ha⟩ := hx.inv_slice
    split at h
    · rename_i hue
      cases hs : a.spot.isNone with
      | false => rw [hs] at h; cases h
      | true =>
        rw [hs] at h
        simp only [cond_true] at h
        cases hln : loadN H a.block a.off len with
        | none => rw [hln] at h; cases h
        | some cs =>
          rw [hln] at h
          simp only at h
          cases hb : bytesOfCells cs .empty with
          | none => rw [hb] at h; cases h
          | some s =>
            rw [hb] at h
            cases h
            obtain ⟨cs', q1, q2, q3, q4⟩ := loadN_sound r hln hp
            have hb' := bytes_rel q2 hb
            have hrun : (Conv.bytesToString (.slice (some a') len cap')).run P w = .ok (.string s) w := by
              rcases ha with e0 | e0
              · have hl0 : len = 0 := by split at hcap <;> omega
                subst hl0
                have := List.eq_nil_of_length_eq_zero q4
                subst this
                simp [bytesOfCells] at hb'
                subst hb'
                obtain ⟨ab, ao, asp⟩ := a'
                simp [Conv.bytesToString, loadCells_zero]
              · subst e0
                exact run_bytesToString q1 hb'
            exact OkV.nx (.of_pure r (v' := .string s) (by simp [convert, run_under hu1, run_under hu2, run_under hue, hrun]) (.string _))
    · cases h
  · rename_i t a hu1 hu2
    obtain ⟨hsp, pl, hp, rfl⟩ := hx.inv_ptr
    cases hh : holdsV P H a t with
    | false => rw [hh] at h; cases h
    | true =>
      rw [hh] at h
      simp only [cond_true, Option.some.injEq] at h
      subst h
      obtain ⟨c, fz, k1, k2, k3, k4⟩ := holdsV_spec r hh hp
      have hsh : w.shape? pl.blk = some (t, c.size) := by simp [World.shape?, k1]
      have hsz := size_of_cells k2
      refine OkV.nx (.of_pure r (v' := .pointer (some ⟨pl.blk, pl.off + a.off, none⟩)) ?_ (by obtain ⟨ab, ao, asp⟩ := a; simp only at hsp; subst hsp; exact .ptr hp))
      have h1 : ¬ (c.size ≤ pl.off + a.off) := by omega
      simp [convert, run_under hu1, run_under hu2, Conv.unsafePointer, run_seenAt k1, cellsIn, hsh, run_size hsz, h1, show ¬ P.cellsOf t = 0 by omega]
  · rename_i u a hu1 hu2
    obtain ⟨hsp, pl, hp, rfl⟩ := hx.inv_ptr
    cases hh : holdsV P H a u with
    | false => rw [hh] at h; cases h
    | true =>
      rw [hh] at h
      simp only [cond_true, Option.some.injEq] at h
      subst h
      obtain ⟨c, fz, k1, k2, k3, k4⟩ := holdsV_spec r hh hp
      have hsz := size_of_cells k2
      refine OkV.nx (.of_pure r (v' := .pointer (some ⟨pl.blk, pl.off + a.off, none⟩)) ?_ (by obtain ⟨ab, ao, asp⟩ := a; simp only at hsp; subst hsp; exact .ptr hp))
      have hv := run_variablesAt (P := P) (w := w) (n := 1) k1 k2 k3 (by
        have : (pl.off + a.off + P.cellsOf u) / P.cellsOf u ≤ c.size / P.cellsOf u := Nat.div_le_div_right k4
        rwa [Nat.add_div_right _ k2] at this)
      simp [convert, run_under hu1, run_under hu2, Conv.unsafePointer, run_seenAt k1, run_size hsz, show ¬ P.cellsOf u = 0 by omega, hv]
  · rename_i x _ _ _ _ _ _ _ _
    cases hf : flat x with
    | false => rw [hf] at h; cases h
    | true =>
      rw [hf] at h
      simp only [cond_true] at h
      rw [flat_eq hx hf]
      split at h
      · rename_i v hv
        cases hfv : flat v with
        | false => rw [hfv] at h; cases h
        | true =>
          rw [hfv] at h
          cases h
          exact OkV.nx (.of_flat r hv hfv)
      · cases h

theorem loadBytes_run {b : Nat} {c : Array Value} {el : TypeId} {fz : Nat × Nat} (hc : w.heap[b]? = some (.cells c el fz)) : ∀ (n o : Nat) (acc s : ByteArray), o + n ≤ c.size →
    bytesOfCells ((c.toList.drop o).take n) acc = some s → (loadBytes ⟨b, o, none⟩ acc n).run P w = .ok s w
  | 0, o, acc, s, _, h => by simp [bytesOfCells] at h; subst h; rfl
  | n + 1, o, acc, s, hle, h => by
    have hlt : o < c.size := by omega
    rw [List.drop_eq_getElem_cons (by simpa using hlt), List.take_succ_cons] at h
    obtain ⟨m, hm, h2⟩ := bytesOfCells_cons h
    have hcell : w.cell? ⟨b, o, none⟩ = some (.int .u8 m) := by
      simp only [Array.getElem_toList] at hm
      simp [World.cell?, hc, hlt, hm]
    have ih := loadBytes_run hc n (o + 1) _ s (by omega) h2
    simp only [loadBytes, Sem.run_bind, run_load, hcell, Result.andThen_ok, Addr.add_none]
    exact ih

/-- What the builtin does with a pointer, whatever words it halts with. -/
theorem unsafeString_eq (ats : Array TypeId) (t : TypeId) (p : Option Addr) (len_ : Value) : ∃ (s1 s2 s3 : String) (u1 u2 : Unsupported), Builtin.unsafeString_ ats t #[.pointer p, len_] = (do
    let n ← asInt len_
    let some pt := ats[0]? | stuck s1
    if n < 0 then runtimePanic (.error s2)
    if n > IntKind.i64.max then unsupported u1
    match p with
    | none => if n = 0 then pure (.string .empty) else runtimePanic (.error s3)
    | some a =>
      if n = 0 then pure (.string .empty)
      else if ← variablesAt a (← elemOf pt) n.toNat then do
        let s ← loadBytes a .empty n.toNat
        freeze a n.toNat
        pure (.string s)
      else unsupported u2) := ⟨_, _, _, _, _, rfl⟩

theorem unsafeStringV_sound (r : Rel P w0 base φ H w) {ts : List TypeId} {t : TypeId} {p p' n n' : Value} {nx : Nx} (h : unsafeStringV P H ts p n = some nx) (hp : VRel φ p p') (hn : VRel φ n n') :
    OkNx P w0 base φ w (do pure (.value (← Builtin.unsafeString_ ts.toArray t #[p', n']))) nx := by
  unfold unsafeStringV at h
  split at h
  · rename_i tt ts hk
    obtain ⟨kd, rfl⟩ := natV_spec hk
    obtain rfl := hn.inv_int
    obtain rfl := hp.inv_ptrNil
    cases h
    refine OkV.nx (.of_pure r (v' := .string .empty) ?_ (.string _))
    obtain ⟨_, _, _, _, _, hE⟩ := unsafeString_eq (tt :: ts).toArray t none (.int kd ((0 : Nat) : Int))
    rw [hE]
    simp [asInt, asIntOf, IntKind.max, IntKind.signed, IntKind.bits]
  · rename_i pt ts a k hk
    obtain ⟨kd, rfl⟩ := natV_spec hk
    obtain rfl := hn.inv_int
    obtain ⟨hsp, pl, hpl, rfl⟩ := hp.inv_ptr
    split at h
    · rename_i u cs el sz slack hu hg
      cases hc : (Nat.blt 0 k && (Nat.beq el u && (Nat.beq (P.cellsOf u) 1 && (Nat.ble (a.off + k) cs.length && Nat.blt k 4611686018427387904)))) with
      | false => rw [hc] at h; cases h
      | true =>
        rw [hc] at h
        simp only [cond_true] at h
        simp only [Bool.and_eq_true] at hc
        obtain ⟨d1, d2, d3, d4, d5⟩ := hc
        have d1 : 0 < k := by simpa [Nat.blt_eq] using d1
        obtain rfl := Nat.eq_of_beq_eq_true d2
        have d3 := Nat.eq_of_beq_eq_true d3
        have d4 := Nat.le_of_ble_eq_true d4
        have d5 : k < 4611686018427387904 := by simpa [Nat.blt_eq] using d5
        cases hb : bytesOfCells ((cs.drop a.off).take k) .empty with
        | none => rw [hb] at h; cases h
        | some s =>
          rw [hb] at h
          cases h
          have hbk := r.blk _ pl hpl
          rw [hg] at hbk
          obtain ⟨h1, h2, h3, hm, c, fz, h4, h5, h6, h7⟩ := hbk
          have hrel : VRels φ ((cs.drop a.off).take k) ((c.toList.drop (pl.off + a.off)).take k) := by
            have := (h6.drop a.off).take k
            rw [List.drop_take, List.drop_drop, List.take_take] at this
            rw [show min k (cs.length - a.off) = k from by omega] at this
            exact this
          have hbytes := bytes_rel hrel hb
          have hl := loadBytes_run (P := P) h4 k (pl.off + a.off) .empty s (by omega) hbytes
          have hv := run_variablesAt (P := P) (w := w) (n := k) (o := pl.off + a.off) h4 (by omega) (by rw [d3]; exact Nat.mod_one _) (by rw [d3, Nat.div_one, Nat.div_one]; omega)
          have hlive : (H.get a.block).live = true := by rw [hg]; rfl
          -- the world behind the freeze
          let w2 := w.freeze ⟨pl.blk, pl.off + a.off, none⟩ k
          have hne : ¬ k = 0 := by omega
          have f1 : ∀ j, j ≠ pl.blk → w2.heap[j]? = w.heap[j]? := by
            intro j hj
            simp only [w2, World.freeze, if_neg hne, Array.getElem?_modify]
            rw [if_neg (by omega)]
          have f2 : ∃ fz', w2.heap[pl.blk]? = some (.cells c el fz') := by
            refine ⟨if fz.1 == fz.2 then (pl.off + a.off, pl.off + a.off + k) else (min fz.1 (pl.off + a.off), max fz.2 (pl.off + a.off + k)), ?_⟩
            simp only [w2, World.freeze, if_neg hne, Array.getElem?_modify]
            rw [if_pos trivial, h4]
            rfl
          have f3 : w2.heap.size = w.heap.size := by simp only [w2, World.freeze, if_neg hne]; simp
          have f4 : w2.os = w.os ∧ w2.tape = w.tape ∧ w2.output = w.output := by
            refine ⟨?_, ?_, ?_⟩ <;> simp only [w2, World.freeze, if_neg hne]
          have hx : BRel φ base w2 pl (.cells cs el sz slack true) := by
            obtain ⟨fz', hfz⟩ := f2
            exact ⟨h1, h2, h3, hm, c, fz', hfz, h5, h6, by simp⟩
          have hrel2 : Rel P w0 base φ (H.put a.block (.cells cs el sz slack true)) w2 := r.put hpl (by rw [hg]; rfl) _ f4.1 f4.2.1 f4.2.2 f3 f1 hx
          refine OkV.nx ⟨φ, .string s, w2, .refl φ, ?_, .string _, hrel2⟩
          have hmax : ¬ ((k : Int) > IntKind.i64.max) := by show ¬ ((k : Int) > 9223372036854775807); omega
          have hneg : ¬ ((k : Int) < 0) := by omega
          have hk0 : ¬ ((k : Int) = 0) := by omega
          obtain ⟨_, _, _, _, _, hE⟩ := unsafeString_eq (pt :: ts).toArray t (some ⟨pl.blk, pl.off + a.off, none⟩) (.int kd (k : Int))
          rw [hE]
          simp only [Sem.run_bind, asInt, asIntOf, Sem.run_pure, Result.andThen_ok, List.getElem?_toArray, List.getElem?_cons_zero, if_neg hneg, if_neg hmax, if_neg hk0, elemOf, run_under hu, Int.toNat_natCast, hv, if_true, hl, run_freeze]
          rfl
    · cases h
  · cases h

end
end Go.Eng
