/- The engine, part 2: memory's primitives keep the relation. -/
import Derived.Test.YtkfkpiphbflokaaGreatDoorE1
namespace Go.Eng
open Go.RowKit (Below)
set_option linter.unusedSectionVars false
variable [Sig]

section
variable {P : Program} {w0 : Cx} {base : Nat} {φ : Emb} {H : Heap} {w : World}

theorem Addr.add_none (b o i : Nat) : Addr.add ⟨b, o, none⟩ i = ⟨b, o + i, none⟩ := by
  unfold Addr.add; split
  · rename_i h; subst h; rfl
  · rfl

theorem run_loadCellsFrom {b : Nat} {c : Array Value} {el : TypeId} {fz : Nat × Nat} (hc : w.heap[b]? = some (.cells c el fz)) (o : Nat) :
    ∀ (n i : Nat) (acc : Array Value), o + i + n ≤ c.size → (loadCellsFrom ⟨b, o, none⟩ i n acc).run P w = .ok (acc ++ ((c.toList.drop (o + i)).take n).toArray) w := by
  intro n
  induction n with
  | zero => intro i acc h; simp [loadCellsFrom]
  | succ n ih =>
    intro i acc h
    have hlt : o + i < c.size := by omega
    have hcell : w.cell? ⟨b, o + i, none⟩ = some c[o + i] := by
      simp [World.cell?, hc, hlt]
    simp only [loadCellsFrom, Addr.add_none, Sem.run_bind, run_load, hcell, Result.andThen_ok]
    rw [ih (i + 1) _ (by omega)]
    have e : (c.toList.drop (o + i)).take (n + 1) = c[o + i] :: (c.toList.drop (o + (i + 1))).take n := by
      rw [List.drop_eq_getElem_cons (by simpa using hlt)]
      simp [Nat.add_assoc]
    rw [e]
    simp

theorem run_loadCells {b : Nat} {c : Array Value} {el : TypeId} {fz : Nat × Nat} (hc : w.heap[b]? = some (.cells c el fz)) (o n : Nat) (h : o + n ≤ c.size) :
    (loadCells ⟨b, o, none⟩ n).run P w = .ok ((c.toList.drop o).take n).toArray w := by
  unfold loadCells
  rw [run_loadCellsFrom hc o n 0 #[] (by omega)]
  simp

theorem loadN_sound (r : Rel P w0 base φ H w) {b o n : Nat} {cs : List Value} (h : loadN H b o n = some cs) {pl : Pl} (hp : φ b = some pl) :
    ∃ cs', (loadCells ⟨pl.blk, pl.off + o, none⟩ n).run P w = .ok cs'.toArray w ∧ VRels φ cs cs' ∧ cs.length = n ∧ cs'.length = n := by
  have hb := r.blk b pl hp
  unfold loadN at h
  cases hg : H.get b with
  | cells ks el sz slack ro =>
    rw [hg] at h hb
    obtain ⟨h1, h2, h3, hm, c, fz, h4, h5, h6, h7⟩ := hb
    simp only at h
    cases hle : Nat.ble (o + n) ks.length with
    | false => rw [hle] at h; cases h
    | true =>
      rw [hle] at h
      have hle' := Nat.le_of_ble_eq_true hle
      simp only [cond_true, Option.some.injEq] at h
      subst h
      refine ⟨((c.toList.drop (pl.off + o)).take n), run_loadCells h4 _ _ (by omega), ?_, by simp; omega, by simp; omega⟩
      have := (h6.drop o).take n
      rw [List.drop_take, List.drop_drop, List.take_take] at this
      rw [show min n (ks.length - o) = n from by omega] at this
      exact this
  | _ => rw [hg] at h; cases h

theorem setCell_cells {b o : Nat} {v : Value} {c : Array Value} {el : TypeId} (hc : w.heap[b]? = some (.cells c el (0, 0))) :
    (w.setCell ⟨b, o, none⟩ v).heap[b]? = some (.cells (c.setIfInBounds o v) el (0, 0)) := by
  simp [World.setCell, Array.getElem?_modify, hc]

theorem setCell_other {b o k : Nat} {v : Value} (hk : k ≠ b) : (w.setCell ⟨b, o, none⟩ v).heap[k]? = w.heap[k]? := Below.heap_setCell w ⟨b, o, none⟩ v k hk

theorem splice_cons (cs : List Value) (o : Nat) (v : Value) (vs : List Value) (h : o < cs.length) : splice cs o (v :: vs) = splice (cs.set o v) (o + 1) vs := by
  unfold splice
  rw [List.take_set, List.drop_set]
  have e1 : ((cs.take (o + 1)).set o v) = cs.take o ++ [v] := by
    rw [List.take_succ_eq_append_getElem h]
    rw [List.set_append]
    simp [List.length_take, Nat.min_eq_left (Nat.le_of_lt h)]
  rw [e1, if_pos (by omega)]
  simp [Nat.add_assoc, Nat.add_comm 1]

theorem run_storeCells {b : Nat} {el : TypeId} (o : Nat) : ∀ (vs : List Value) (i : Nat) (w : World) (c : Array Value), w.heap[b]? = some (.cells c el (0, 0)) →
    oneCells vs = true → o + i + vs.length ≤ c.size →
    ∃ w', (storeCells ⟨b, o, none⟩ vs i).run P w = .ok () w' ∧ w'.os = w.os ∧ w'.tape = w.tape ∧ w'.output = w.output ∧ w'.heap.size = w.heap.size ∧
      (∀ k, k ≠ b → w'.heap[k]? = w.heap[k]?) ∧ w'.heap[b]? = some (.cells (splice c.toList (o + i) vs).toArray el (0, 0)) := by
  intro vs
  induction vs with
  | nil => intro i w c hc _ _; exact ⟨w, rfl, rfl, rfl, rfl, rfl, fun _ _ => rfl, by rw [hc]; simp [splice]⟩
  | cons v vs ih =>
    intro i w c hc hone hlen
    simp [oneCells] at hone
    simp only [List.length_cons] at hlen
    have hlt : o + i < c.size := by omega
    have hcell : w.cell? ⟨b, o + i, none⟩ = some c[o + i] := by simp [World.cell?, hc, hlt]
    have hfz : w.frozen? ⟨b, o + i, none⟩ = false := by simp [World.frozen?, hc]
    obtain ⟨w', h1, h2, h3, h4, h5, h6, h7⟩ := ih (i + 1) (w.setCell ⟨b, o + i, none⟩ v) _ (setCell_cells hc) hone.2 (by simp; omega)
    refine ⟨w', ?_, h2, h3, h4, by rw [h5]; simp [World.setCell], fun k hk => (h6 k hk).trans (setCell_other hk), ?_⟩
    · simp only [storeCells, Addr.add_none, Sem.run_bind]
      rw [run_store P w ⟨b, o + i, none⟩ v _ hone.1]
      simp only [hcell, hfz, Bool.false_eq_true, if_false, Result.andThen_ok]
      exact h1
    · rw [h7, splice_cons _ _ _ _ (by simpa using hlt)]
      simp [Nat.add_assoc]

theorem VRels.splice {l l' vs vs' : List Value} (h : VRels φ l l') (hv : VRels φ vs vs') (o : Nat) : VRels φ (Eng.splice l o vs) (Eng.splice l' o vs') := by
  unfold Eng.splice
  rw [hv.length]
  exact (h.take o).append (hv.append (h.drop _))

theorem splice_length (l : List Value) (o : Nat) (vs : List Value) (h : o + vs.length ≤ l.length) : (splice l o vs).length = l.length := by
  unfold splice; simp; omega

theorem splice_inner (l : List Value) (p n o : Nat) (vs : List Value) (h : o + vs.length ≤ n) (hn : p + n ≤ l.length) :
    ((splice l (p + o) vs).drop p).take n = splice ((l.drop p).take n) o vs := by
  apply List.ext_getElem?
  intro i
  unfold splice
  simp only [List.getElem?_take, List.getElem?_drop, List.getElem?_append, List.length_take, List.length_drop, List.take_take, List.drop_take, List.drop_drop]
  repeat' split
  all_goals first | rfl | (exfalso; omega) | (congr 1; omega)

theorem storeN_sound (r : Rel P w0 base φ H w) {b o : Nat} {vs vs' : List Value} {H' : Heap} (h : storeN H b o vs = some H') (hone : oneCells vs = true) (hv : VRels φ vs vs') {pl : Pl} (hp : φ b = some pl) :
    ∃ w', (storeCells ⟨pl.blk, pl.off + o, none⟩ vs').run P w = .ok () w' ∧ Rel P w0 base φ H' w' := by
  have hb := r.blk b pl hp
  unfold storeN at h
  cases hg : H.get b with
  | cells ks el sz slack ro =>
    have hb0 := hb
    rw [hg] at h hb
    obtain ⟨h1, h2, h3, hm, c, fz, h4, h5, h6, h7⟩ := hb
    simp only at h
    cases hle : (!ro && Nat.ble (o + vs.length) ks.length) with
    | false => rw [hle] at h; cases h
    | true =>
      rw [hle] at h
      simp at hle
      obtain ⟨hro, hle'⟩ := hle
      simp only [cond_true, Option.some.injEq, forceL_eq] at h
      subst h hro
      obtain ⟨hbase, rfl⟩ := h7 rfl
      obtain ⟨w', q1, q2, q3, q4, q5, q6, q7⟩ := run_storeCells (P := P) (pl.off + o) vs' 0 w c h4 (by rw [hv.oneCells]; exact hone) (by rw [hv.length]; omega)
      refine ⟨w', q1, r.put hp (by rw [hg]; rfl) _ q2 q3 q4 q5 q6 ?_⟩
      have hlen : (splice ks o vs).length = ks.length := splice_length _ _ _ hle'
      refine ⟨by rw [hlen]; exact h1, h2, h3, hm, _, (0, 0), q7, ?_, ?_, fun _ => ⟨hbase, rfl⟩⟩
      · rw [hlen]; simp; rw [splice_length _ _ _ (by simp [hv.length]; omega)]; simpa using h5
      · rw [hlen]
        simp only [Nat.add_zero]
        rw [splice_inner _ _ _ _ _ (by rw [hv.length]; exact hle') (by simp; omega)]
        exact h6.splice hv o
  | _ => rw [hg] at h; cases h

/-- A new row of cells, as long as it is told. -/
theorem newCells_sound (r : Rel P w0 base φ H w) {cs cs' : List Value} (hv : VRels φ cs cs') (el : TypeId) (sz : Nat) (slack : Bool) (rest : List Value) (dl : Nat) (hd : dl * sz = rest.length) (hs : slack = false → dl = 0) :
    Rel P w0 base (φ.add H.next ⟨w.heap.size, 0, cs.length, sz, dl⟩) (newCells H cs el sz slack) (w.alloc (.cells (cs' ++ rest).toArray el)) := by
  unfold newCells
  rw [forceL_eq]
  refine r.new _ _ ⟨w.heap.size, 0, cs.length, sz, dl⟩ rfl ⟨rfl, fun _ => rfl, hs, Nat.zero_mod _, _, (0, 0), World.alloc_heap_new w _, ?_, ?_, fun _ => ⟨r.low, rfl⟩⟩
  · simp [hv.length, hd]
  · have := hv.mono (Emb.le_add (φ := φ) ⟨w.heap.size, 0, cs.length, sz, dl⟩ r.fresh)
    simpa [hv.length.symm] using this

theorem newCells_ptr (pl : Pl) {w : World} (hb : pl.blk = w.heap.size) (ho : pl.off = 0) : VRel (φ.add H.next pl) (.pointer (some ⟨H.next, 0, none⟩)) (.pointer (some ⟨w.heap.size, 0, none⟩)) := by
  have := VRel.ptr (φ := φ.add H.next pl) (o := 0) (Emb.add_same φ H.next pl)
  rw [hb, ho] at this
  exact this

theorem run_newRow (el : TypeId) (cs : Array Value) : (newRow el cs).run P w = .ok ⟨w.heap.size, 0, none⟩ (w.alloc (.cells cs el)) := by
  rfl

theorem le_new (r : Rel P w0 base φ H w) (pl : Pl) : φ.le (φ.add H.next pl) := Emb.le_add pl r.fresh

/-! ### Pointers and slices, seen from the interpreter's side -/
theorem VRel.inv_ptr {a : Addr} {v' : Value} (h : VRel φ (.pointer (some a)) v') : a.spot = none ∧ ∃ pl, φ a.block = some pl ∧ v' = .pointer (some ⟨pl.blk, pl.off + a.off, none⟩) := by
  cases h with
  | ptr h => exact ⟨rfl, _, h, rfl⟩
theorem VRel.inv_slice {a : Addr} {len cap : Nat} {v' : Value} (h : VRel φ (.slice (some a) len cap) v') :
    a.spot = none ∧ ∃ pl a' cap', φ a.block = some pl ∧ v' = .slice (some a') len cap' ∧ len ≤ cap ∧ cap' = cap + (if a.off + cap * pl.sz = pl.n then pl.dl else 0) ∧ (cap' = 0 ∨ a' = ⟨pl.blk, pl.off + a.off, none⟩) := by
  cases h with
  | slice h hl hc ha => exact ⟨rfl, _, _, _, h, rfl, hl, hc, ha⟩
theorem VRel.inv_sliceNil {len cap : Nat} {v' : Value} (h : VRel φ (.slice none len cap) v') : len = 0 ∧ cap = 0 ∧ v' = .slice none 0 0 := by
  cases h; exact ⟨rfl, rfl, rfl⟩
theorem VRel.inv_ptrNil {v' : Value} (h : VRel φ (.pointer none) v') : v' = .pointer none := by cases h; rfl
theorem VRel.inv_int {k : IntKind} {n : Int} {v' : Value} (h : VRel φ (.int k n) v') : v' = .int k n := by cases h; rfl
theorem VRel.inv_bool {b : Bool} {v' : Value} (h : VRel φ (.bool b) v') : v' = .bool b := by cases h; rfl
theorem VRel.inv_string {s : ByteArray} {v' : Value} (h : VRel φ (.string s) v') : v' = .string s := by cases h; rfl
theorem VRel.inv_mapNil {v' : Value} (h : VRel φ (.map none) v') : v' = .map none := by cases h; rfl
theorem VRel.inv_map {r : Nat} {v' : Value} (h : VRel φ (.map (some r)) v') : ∃ pl, φ r = some pl ∧ v' = .map (some pl.blk) := by cases h with | map h => exact ⟨_, h, rfl⟩
theorem VRel.inv_agg {c : Array Value} {v' : Value} (h : VRel φ (.agg c) v') : ∃ c', v' = .agg c' ∧ VRels φ c.toList c'.toList := by cases h with | agg h => exact ⟨_, rfl, h⟩
theorem VRel.inv_tuple {c : Array Value} {v' : Value} (h : VRel φ (.tuple c) v') : ∃ c', v' = .tuple c' ∧ VRels φ c.toList c'.toList := by cases h with | tuple h => exact ⟨_, rfl, h⟩

end
end Go.Eng
