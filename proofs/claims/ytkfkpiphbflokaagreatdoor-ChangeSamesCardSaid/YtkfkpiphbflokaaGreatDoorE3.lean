/- The engine, part 3: operations on values and memory, one by one. -/
import Derived.Test.YtkfkpiphbflokaaGreatDoorE2
namespace Go.Eng
open Go.RowKit (Below)
set_option linter.unusedSectionVars false
variable [Sig]

variable {α β : Type}

theorem pureVal_run (P : Program) (s : Sem α) : ∀ {a : α}, pureVal P s = some a → ∀ w, s.run P w = .ok a w := by
  induction s with
  | pure a => intro b h w; simp [pureVal] at h; subst h; rfl
  | program k ih => intro b h w; simp only [pureVal] at h; simp only [Sem.run]; exact ih P h w
  | mark m k ih => intro b h w; simp only [pureVal] at h; simp only [Sem.run]; exact ih h w
  | _ => intro b h; simp [pureVal] at h

section
variable {P : Program} {w0 : Cx} {base : Nat} {φ : Emb} {H : Heap} {w : World}

def OkV (P : Program) (w0 : Cx) (base : Nat) (φ : Emb) (w : World) (s : Sem Value) (v : Value) (H' : Heap) : Prop :=
  ∃ φ' v' w', φ.le φ' ∧ s.run P w = .ok v' w' ∧ VRel φ' v v' ∧ Rel P w0 base φ' H' w'
def OkU (P : Program) (w0 : Cx) (base : Nat) (φ : Emb) (w : World) (s : Sem Unit) (H' : Heap) : Prop :=
  ∃ φ' w', φ.le φ' ∧ s.run P w = .ok () w' ∧ Rel P w0 base φ' H' w'

def OkNx (P : Program) (w0 : Cx) (base : Nat) (φ : Emb) (w : World) (s : Sem Next) : Nx → Prop
  | .val v H' => ∃ φ' v' w', φ.le φ' ∧ s.run P w = .ok (.value v') w' ∧ VRel φ' v v' ∧ Rel P w0 base φ' H' w'
  | .skip H' => ∃ φ' w', φ.le φ' ∧ s.run P w = .ok .skip w' ∧ Rel P w0 base φ' H' w'
  | .enter f args H' => ∃ args', VRels φ args args' ∧ s.run P w = (callFunc f args'.toArray).run P w ∧ Rel P w0 base φ H' w
  | .yield l args H' => ∃ pl args', φ l = some pl ∧ VRels φ args args' ∧ s.run P w = (Instr.yield pl.blk args'.toArray).run P w ∧ Rel P w0 base φ H' w

theorem OkV.nx {s : Sem Value} {v : Value} {H' : Heap} (h : OkV P w0 base φ w s v H') : OkNx P w0 base φ w (do pure (.value (← s))) (.val v H') := by
  obtain ⟨φ', v', w', h1, h2, h3, h4⟩ := h
  exact ⟨φ', v', w', h1, by simp [h2], h3, h4⟩
theorem OkU.nx {s : Sem Unit} {H' : Heap} (h : OkU P w0 base φ w s H') : OkNx P w0 base φ w (do s; pure .skip) (.skip H') := by
  obtain ⟨φ', w', h1, h2, h4⟩ := h
  exact ⟨φ', w', h1, by simp [h2], h4⟩
theorem OkV.of_pure (r : Rel P w0 base φ H w) {s : Sem Value} {v v' : Value} (h : s.run P w = .ok v' w) (hv : VRel φ v v') : OkV P w0 base φ w s v H :=
  ⟨φ, v', w, .refl φ, h, hv, r⟩
theorem OkV.of_flat (r : Rel P w0 base φ H w) {s : Sem Value} {v : Value} (h : pureVal P s = some v) (hv : flat v = true) : OkV P w0 base φ w s v H :=
  .of_pure r (pureVal_run P s h w) (.refl φ hv)

/-! ### Operands -/
theorem ev_sound (r : Rel P w0 base φ H w) {N : Nat} {t : Tr Value} {a : Act} (ht : TRel φ N t a.tmps) {x : Operand} {v : Value} (h : ev P t x = some v) : VRel φ v (a.eval x) := by
  cases x with
  | tmp i => simp [ev] at h; subst h; exact ht.get i
  | const c =>
    simp only [ev] at h
    cases hf : flat c with
    | false => rw [hf] at h; cases h
    | true => rw [hf] at h; cases h; exact .refl φ hf
  | global g =>
    simp only [ev] at h
    cases hf : Nat.blt g P.globals.size with
    | false => rw [hf] at h; cases h
    | true =>
      rw [hf] at h; cases h
      obtain ⟨pl, h1, h2, h3⟩ := r.glob g (by simpa [Nat.blt_eq] using hf)
      have := VRel.ptr (o := 0) h1
      rw [h2, h3] at this
      exact this
  | func f => simp [ev] at h; subst h; exact .func (.same _ (by intro l; simp)) .nil .nil

theorem evs_sound (r : Rel P w0 base φ H w) {N : Nat} {t : Tr Value} {a : Act} (ht : TRel φ N t a.tmps) : ∀ {l : List Operand} {vs : List Value}, evs P t l = some vs → VRels φ vs (l.map a.eval)
  | [], vs, h => by simp [evs] at h; subst h; exact .nil
  | x :: xs, vs, h => by
    simp only [evs] at h
    cases h1 : ev P t x with
    | none => rw [h1] at h; cases h
    | some v =>
      rw [h1] at h
      cases h2 : evs P t xs with
      | none => rw [h2] at h; cases h
      | some vs' => rw [h2] at h; cases h; exact .cons (ev_sound r ht h1) (evs_sound r ht h2)

inductive PRels (φ : Emb) : List (Nat × Value) → List (Nat × Value) → Prop
  | nil : PRels φ [] []
  | cons {i : Nat} {v v' : Value} {l l' : List (Nat × Value)} (h : VRel φ v v') (t : PRels φ l l') : PRels φ ((i, v) :: l) ((i, v') :: l')

theorem evParts_sound (r : Rel P w0 base φ H w) {N : Nat} {t : Tr Value} {a : Act} (ht : TRel φ N t a.tmps) : ∀ {l : List (Nat × Operand)} {vs : List (Nat × Value)}, evParts P t l = some vs → PRels φ vs (l.map fun (i, x) => (i, a.eval x))
  | [], vs, h => by simp [evParts] at h; subst h; exact .nil
  | (i, x) :: xs, vs, h => by
    simp only [evParts] at h
    cases h1 : ev P t x with
    | none => rw [h1] at h; cases h
    | some v =>
      rw [h1] at h
      cases h2 : evParts P t xs with
      | none => rw [h2] at h; cases h
      | some vs' => rw [h2] at h; cases h; exact .cons (ev_sound r ht h1) (evParts_sound r ht h2)

/-! ### Types -/
theorem run_under {t : TypeId} {d : TypeDesc} (h : P.underlying t = some d) : (underlying t).run P w = .ok d w := by simp [underlying, h]
theorem run_info {t : TypeId} {i : TypeInfo} (h : P.info? t = some i) : (typeInfo t).run P w = .ok i w := by simp [typeInfo, h]
theorem run_size {t : TypeId} {n : Nat} (h : sizeT P t = some n) : (sizeOf t).run P w = .ok n w := by
  unfold sizeT at h
  cases hi : P.info? t with
  | none => rw [hi] at h; cases h
  | some i => rw [hi] at h; simp at h; subst h; simp [sizeOf, run_info hi]
theorem zeroT_spec {t : TypeId} {z : Value} (h : zeroT P t = some z) : ∃ i, P.info? t = some i ∧ i.zero = some z ∧ flat z = true ∧ z.cells.size = i.size := by
  unfold zeroT at h
  cases hi : P.info? t with
  | none => rw [hi] at h; cases h
  | some i =>
    rw [hi] at h
    cases hz : i.zero with
    | none => simp [hz] at h
    | some v =>
      simp only [hz] at h
      cases hf : (flat v && Nat.beq v.cells.size i.size) with
      | false => rw [hf] at h; cases h
      | true =>
        rw [hf] at h; cases h
        simp at hf
        exact ⟨i, rfl, hz, hf.1, hf.2⟩
theorem run_zero {t : TypeId} {z : Value} (h : zeroT P t = some z) : (zeroValue t).run P w = .ok z w := by
  obtain ⟨i, h1, h2, _⟩ := zeroT_spec h
  simp [zeroValue, run_info h1, h2]
theorem run_isAgg {t : TypeId} {b : Bool} (h : isAggT P t = some b) : (isAgg t).run P w = .ok b w := by
  unfold isAggT at h
  cases hu : P.underlying t with
  | none => rw [hu] at h; cases h
  | some d =>
    rw [hu] at h
    cases d <;> simp at h <;> subst h <;> simp [isAgg, run_under hu]

/-! ### Parts of structs -/
theorem partV_sound (r : Rel P w0 base φ H w) {t : TypeId} {cs cs' : Array Value} {off : Nat} {v : Value} (h : partV P t cs off = some v) (hc : VRels φ cs.toList cs'.toList) :
    OkV P w0 base φ w (part t cs' off) v H := by
  unfold partV at h
  cases ha : isAggT P t with
  | none => rw [ha] at h; cases h
  | some b =>
    rw [ha] at h
    cases b with
    | true =>
      simp only at h
      cases hs : sizeT P t with
      | none => rw [hs] at h; cases h
      | some n =>
        rw [hs] at h; cases h
        refine .of_pure r (v' := .agg (cs'.extract off (off + n))) (by simp [part, run_isAgg ha, run_size hs]) (.agg ?_)
        have := (hc.drop off).take n
        simpa [Array.toList_extract, List.extract_eq_take_drop] using this
    | false =>
      simp only at h
      obtain ⟨v', h1, h2⟩ := hc.get (i := off) (v := v) (by simpa using h)
      have h1' : cs'[off]? = some v' := by simpa using h1
      exact .of_pure r (v' := v') (by simp [part, run_isAgg ha, h1']) h2

theorem fieldV_sound (r : Rel P w0 base φ H w) {xt : TypeId} {x x' v : Value} {f : Nat} (h : fieldV P xt x f = some v) (hx : VRel φ x x') :
    OkV P w0 base φ w (Instr.field xt x' f) v H := by
  unfold fieldV at h
  cases hu : P.underlying xt with
  | none => rw [hu] at h; cases h
  | some d =>
    rw [hu] at h
    cases d <;> simp only at h <;> try cases h
    rename_i fs
    cases hf : fs[f]? with
    | none => rw [hf] at h; cases h
    | some fd =>
      rw [hf] at h
      cases x <;> simp only at h <;> try cases h
      rename_i cs
      obtain ⟨cs', rfl, hc⟩ := hx.inv_agg
      obtain ⟨φ', v', w', q1, q2, q3, q4⟩ := partV_sound r h hc
      exact ⟨φ', v', w', q1, by simp [Instr.field, run_under hu, hf, asAgg, q2], q3, q4⟩

theorem PRels.length {l l' : List (Nat × Value)} (h : PRels φ l l') : l'.length = l.length := by induction h <;> simp_all

theorem foldl_set {vs vs' : List Value} (off : Nat) : ∀ (j : Nat) {cs cs' : Array Value}, VRels φ vs vs' → VRels φ cs.toList cs'.toList →
    VRels φ ((vs.zipIdx j).foldl (fun cs (p : Value × Nat) => cs.setIfInBounds (off + p.2) p.1) cs).toList ((vs'.zipIdx j).foldl (fun cs (p : Value × Nat) => cs.setIfInBounds (off + p.2) p.1) cs').toList := by
  induction vs generalizing vs' with
  | nil => intro j cs cs' h hc; cases h; exact hc
  | cons v vs ih =>
    intro j cs cs' h hc
    cases h with
    | cons hv ht =>
      simp only [List.zipIdx_cons, List.foldl_cons]
      exact ih (j + 1) ht (by simpa using hc.set (off + j) hv)
theorem foldl_set_size {vs : List Value} (off : Nat) : ∀ (j : Nat) (cs : Array Value), ((vs.zipIdx j).foldl (fun cs (p : Value × Nat) => cs.setIfInBounds (off + p.2) p.1) cs).size = cs.size := by
  induction vs with
  | nil => intro j cs; rfl
  | cons v vs ih => intro j cs; simp only [List.zipIdx_cons, List.foldl_cons]; rw [ih]; simp

theorem fill_sound {place : Nat → Option (Nat × Nat)} : ∀ {l l' : List (Nat × Value)} {cs cs' out : Array Value}, PRels φ l l' → VRels φ cs.toList cs'.toList → Instr.fill place cs l = some out →
    ∃ out', Instr.fill place cs' l' = some out' ∧ VRels φ out.toList out'.toList ∧ out.size = cs.size := by
  intro l
  induction l with
  | nil => intro l' cs cs' out h hc hf; cases h; simp [Instr.fill] at hf ⊢; subst hf; exact ⟨hc, rfl⟩
  | cons p l ih =>
    intro l' cs cs' out h hc hf
    cases h with
    | @cons i v v' _ l' hv ht =>
      simp only [Instr.fill] at hf ⊢
      cases hp : place i with
      | none => rw [hp] at hf; cases hf
      | some q =>
        obtain ⟨off, size⟩ := q
        rw [hp] at hf
        simp only at hf ⊢
        have hsz : cs'.size = cs.size := by have := hc.length; simpa using this
        rw [hv.cells_size, hsz]
        split at hf
        · cases hf
        · rename_i hcond
          rw [if_neg hcond]
          have hcells : VRels φ v.cells.toList v'.cells.toList := hv.cells
          have key := foldl_set (φ := φ) off 0 hcells hc
          have e : ∀ (u : Value) (ks : Array Value), u.cells.zipIdx.foldl (fun cs (x : Value × Nat) => cs.setIfInBounds (off + x.2) x.1) ks = (u.cells.toList.zipIdx 0).foldl (fun cs (p : Value × Nat) => cs.setIfInBounds (off + p.2) p.1) ks := by
            intro u ks
            rw [← Array.foldl_toList]
            simp
          rw [e] at hf ⊢
          obtain ⟨out', h1, h2, h3⟩ := ih ht key hf
          exact ⟨out', h1, h2, by rw [h3, foldl_set_size]⟩

theorem zero_rel {t : TypeId} {z : Value} (h : zeroT P t = some z) : VRels φ z.cells.toList z.cells.toList := by
  obtain ⟨_, _, _, hf, _⟩ := zeroT_spec h
  exact (VRel.refl φ hf).cells

theorem placesOf_spec : ∀ {fs : List Field} {pl : List (Nat × Nat)}, placesOf P fs = some pl →
    (fs.mapM fun f => (do pure (f.offset, ← sizeOf f.type) : Sem (Nat × Nat))).run P w = .ok pl w
  | [], pl, h => by simp [placesOf] at h; subst h; simp
  | f :: fs, pl, h => by
    simp only [placesOf] at h
    cases hs : sizeT P f.type with
    | none => rw [hs] at h; cases h
    | some n =>
      rw [hs] at h
      cases hp : placesOf P fs with
      | none => rw [hp] at h; cases h
      | some l =>
        rw [hp] at h; cases h
        have := placesOf_spec hp
        simp only [List.mapM_cons, Sem.run_bind, run_size hs, Result.andThen_ok, Sem.run_pure, this]

theorem buildV_sound (r : Rel P w0 base φ H w) {t : TypeId} {l l' : List (Nat × Value)} {v : Value} (h : buildV P t l = some v) (hl : PRels φ l l') :
    OkV P w0 base φ w (Instr.build t l'.toArray) v H := by
  unfold buildV at h
  cases hz : zeroT P t with
  | none => rw [hz] at h; cases h
  | some z =>
    rw [hz] at h
    simp only at h
    cases hu : P.underlying t with
    | none => rw [hu] at h; cases h
    | some d =>
      rw [hu] at h
      cases d <;> simp only at h <;> try cases h
      · rename_i n e
        cases hs : sizeT P e with
        | none => rw [hs] at h; cases h
        | some k =>
          rw [hs] at h
          simp only at h
          cases hf : Instr.fill (fun i => some (i * k, k)) z.cells l with
          | none => rw [hf] at h; cases h
          | some cs =>
            rw [hf] at h; cases h
            obtain ⟨out', q1, q2, _⟩ := fill_sound hl (zero_rel (φ := φ) hz) hf
            exact .of_pure r (v' := .agg out') (by simp [Instr.build, run_zero hz, run_under hu, run_size hs, q1]) (.agg q2)
      · rename_i fs
        cases hp : placesOf P fs.toList with
        | none => rw [hp] at h; cases h
        | some pl =>
          rw [hp] at h
          simp only at h
          cases hf : Instr.fill (fun i => pl[i]?) z.cells l with
          | none => rw [hf] at h; cases h
          | some cs =>
            rw [hf] at h; cases h
            obtain ⟨out', q1, q2, _⟩ := fill_sound hl (zero_rel (φ := φ) hz) hf
            have hm := placesOf_spec (w := w) hp
            refine .of_pure r (v' := .agg out') ?_ (.agg q2)
            simp only [Instr.build, Sem.run_bind, run_zero hz, Result.andThen_ok, run_under hu]
            rw [Array.mapM_eq_mapM_toList]
            simp only [Sem.run_map, hm, Result.andThen_ok]
            simp [q1]

theorem newRow_sound (r : Rel P w0 base φ H w) {cs cs' : List Value} (hv : VRels φ cs cs') (el : TypeId) (sz : Nat) :
    Rel P w0 base (φ.add H.next ⟨w.heap.size, 0, cs.length, sz, 0⟩) (newCells H cs el sz false) (w.alloc (.cells cs'.toArray el)) := by
  have := newCells_sound r hv el sz false [] 0 (by simp) (fun _ => rfl)
  simpa using this

theorem newV_sound (r : Rel P w0 base φ H w) {t : TypeId} {v v' : Value} (hv : VRel φ v v') :
    OkV P w0 base φ w (do pure (.pointer (some (← newVar t v')))) (.pointer (some ⟨H.next, 0, none⟩)) (newV H t v) := by
  refine ⟨_, .pointer (some ⟨w.heap.size, 0, none⟩), _, le_new r _, ?_, newCells_ptr _ rfl rfl, newRow_sound r hv.cells t _⟩
  simp [newVar, run_newRow]

theorem rep_length {z : List Value} : ∀ n, (repCells z n).length = n * z.length
  | 0 => by simp [repCells]
  | n + 1 => by simp [repCells, rep_length n, Nat.succ_mul, Nat.add_comm]
theorem rep_get {z : List Value} : ∀ {n i : Nat}, i < n * z.length → (repCells z n)[i]? = z[i % z.length]?
  | 0, i, h => by simp at h
  | n + 1, i, h => by
    simp only [repCells]
    by_cases hi : i < z.length
    · rw [List.getElem?_append_left hi, Nat.mod_eq_of_lt hi]
    · rw [List.getElem?_append_right (by omega), rep_get (by rw [Nat.succ_mul] at h; omega)]
      rw [Nat.mod_eq_sub_mod (a := i) (by omega)]
theorem rep_eq (z : Array Value) (n : Nat) : ((Array.range (n * z.size)).map (fun i => z[i % z.size]!)).toList = repCells z.toList n := by
  apply List.ext_getElem?
  intro i
  by_cases h : i < n * z.size
  · rw [rep_get (by simpa using h)]
    have hz : 0 < z.size := by
      rcases Nat.eq_zero_or_pos z.size with e | e
      · rw [e] at h; simp at h
      · exact e
    have hm : i % z.size < z.size := Nat.mod_lt _ hz
    simp [h, hm]
  · have h1 : (repCells z.toList n).length ≤ i := by rw [rep_length]; simp; omega
    rw [List.getElem?_eq_none h1, List.getElem?_eq_none (by simp; omega)]
theorem rep_rel {z : List Value} (h : VRels φ z z) : ∀ n, VRels φ (repCells z n) (repCells z n)
  | 0 => .nil
  | n + 1 => h.append (rep_rel h n)

theorem slice_exact {b : Nat} {pl : Pl} {o len cap : Nat} (h : φ b = some pl) (hl : len ≤ cap) (hd : pl.dl = 0) : VRel φ (.slice (some ⟨b, o, none⟩) len cap) (.slice (some ⟨pl.blk, pl.off + o, none⟩) len cap) := by
  have := VRel.slice (φ := φ) (o := o) (cap' := cap) (a' := ⟨pl.blk, pl.off + o, none⟩) h hl (by rw [hd]; simp) (Or.inr rfl)
  exact this

theorem buildSliceV_sound (r : Rel P w0 base φ H w) {t : TypeId} {len : Nat} {l l' : List (Nat × Value)} {nx : Nx} (h : buildSliceV P H t len l = some nx) (hl : PRels φ l l') :
    OkNx P w0 base φ w (do pure (.value (← Instr.buildSlice t len l'.toArray))) nx := by
  unfold buildSliceV at h
  cases hu : P.underlying t with
  | none => rw [hu] at h; cases h
  | some d =>
    rw [hu] at h
    cases d <;> simp only at h <;> try cases h
    rename_i e
    cases hs : sizeT P e with
    | none => rw [hs] at h; cases h
    | some k =>
      rw [hs] at h
      simp only at h
      cases hz : zeroT P e with
      | none => rw [hz] at h; cases h
      | some z =>
        rw [hz] at h
        simp only at h
        have hzs : z.cells.size = k := by
          obtain ⟨i, q1, _, _, q4⟩ := zeroT_spec hz
          unfold sizeT at hs
          rw [q1] at hs
          simp at hs
          omega
        cases hle : Nat.ble (len * k) 16777216 with
        | false => rw [hle] at h; cases h
        | true =>
          rw [hle] at h
          have hle' := Nat.le_of_ble_eq_true hle
          simp only [cond_true] at h
          cases hf : Instr.fill (fun i => some (i * k, k)) (repCells z.cells.toList len).toArray l with
          | none => rw [hf] at h; cases h
          | some cs =>
            rw [hf] at h; cases h
            obtain ⟨out', q1, q2, q3⟩ := fill_sound (cs' := (repCells z.cells.toList len).toArray) hl (by simpa using rep_rel (φ := φ) (zero_rel hz) len) hf
            refine OkV.nx ⟨_, .slice (some ⟨w.heap.size, 0, none⟩) len len, w.alloc (.cells out' e), le_new r _, ?_, slice_exact (Emb.add_same φ H.next ⟨w.heap.size, 0, cs.toList.length, k, 0⟩) (Nat.le_refl _) rfl, ?_⟩
            · have hrep := rep_eq z.cells len
              rw [hzs] at hrep
              have hrep' : (Array.range (len * k)).map (fun i => z.cells[i % k]!) = (repCells z.cells.toList len).toArray := by
                rw [← hrep]
              simp only [Instr.buildSlice, Sem.run_bind, run_under hu, Result.andThen_ok, run_size hs]
              rw [if_neg (by omega)]
              by_cases h0 : len * k = 0
              · have e1 : repCells z.cells.toList len = [] := List.eq_nil_of_length_eq_zero (by rw [rep_length]; simp [hzs, h0])
                rw [e1] at q1
                simp [h0, q1, run_newRow, show Array.range 0 = #[] from rfl]
              · simp only [h0, if_false, Sem.run_bind, run_zero hz, Result.andThen_ok, Sem.run_pure]
                rw [hzs, hrep', q1]
                simp [run_newRow]
            · have := newRow_sound r q2 e k
              simpa using this

end
end Go.Eng
