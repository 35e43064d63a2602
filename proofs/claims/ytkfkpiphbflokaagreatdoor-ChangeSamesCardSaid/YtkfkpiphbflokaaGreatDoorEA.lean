/- The engine, part 10: every operation. -/
import Derived.Test.YtkfkpiphbflokaaGreatDoorE9
namespace Go.Eng
open Go.RowKit (Below)
set_option linter.unusedSectionVars false
variable [Sig]

section
variable {P : Program} {w0 : Cx} {base : Nat} {φ : Emb} {H : Heap} {w : World}

theorem VRels.flat_eq {l l' : List Value} (h : VRels φ l l') (hf : l.all flat = true) : l' = l := by
  induction l generalizing l' with
  | nil => cases h; rfl
  | cons x xs ih => cases h with | cons hv ht => simp at hf; rw [Eng.flat_eq hv hf.1, ih ht (by simpa using hf.2)]

theorem okB {s : Sem Value} {nx : Nx} (h : OkNx P w0 base φ w (do pure (.value (← s))) nx) {b : Builtin} {ats : Array TypeId} {t : TypeId} {cs : Array Bool} {args : Array Value}
    (e : builtin b ats t cs args = (do pure (.value (← s)))) : OkNx P w0 base φ w (builtin b ats t cs args) nx := by rw [e]; exact h

theorem builtinV_sound (r : Rel P w0 base φ H w) {b : Builtin} {ts : List TypeId} {t : TypeId} {cs : Array Bool} {args args' : List Value} {nx : Nx} (h : builtinV P H b ts t args = some nx) (ha : VRels φ args args') :
    OkNx P w0 base φ w (builtin b ts.toArray t cs args'.toArray) nx := by
  unfold builtinV at h
  split at h
  · rename_i s x
    match args', ha with
    | [s', x'], .cons hs (.cons hx .nil) =>
      unfold appendV at h
      cases ts with
      | nil => cases h
      | cons st rest =>
        simp only at h
        split at h
        · rename_i e hu
          split at h
          · rename_i i z n base len cap hi hz hsl
            split at h
            · rename_i new hsc
              cases hc : (noInts P rest && (Nat.ble ((2 * (len + n) + 1024) * i.bytes) 281474976710656 && (Nat.blt 0 i.bytes && (Nat.blt (len + n) 4611686018427387904 && (oneCells new && Nat.beq new.length (n * i.size)))))) with
              | false => rw [hc] at h; cases h
              | true =>
                rw [hc] at h
                simp only [cond_true] at h
                simp only [Bool.and_eq_true] at hc
                obtain ⟨d1, d2, d3, d4, d5, d6⟩ := hc
                have d2 := Nat.le_of_ble_eq_true d2
                have d3 : 0 < i.bytes := by simpa [Nat.blt_eq] using d3
                have d6 := Nat.eq_of_beq_eq_true d6
                exact okB (appendTo_sound (t := t) r h hs hx hu hi hz d1 hsl hsc d2 d3 d5 d6) rfl
            · cases h
          · cases h
        · cases h
  · rename_i d s
    match args', ha with
    | [d', s'], .cons hd (.cons hs .nil) => exact okB (copyV_sound (t := t) r h hd hs) rfl
  · rename_i x
    match args', ha with
    | [x'], .cons hx .nil =>
      cases hl : lenV P H ts x with
      | none => rw [hl] at h; cases h
      | some v => rw [hl] at h; cases h; exact okB (OkV.nx (lenV_sound (t := t) r hl hx)) rfl
  · rename_i x
    match args', ha with
    | [x'], .cons hx .nil =>
      cases hl : capV P H ts x with
      | none => rw [hl] at h; cases h
      | some v => rw [hl] at h; cases h; exact okB (OkV.nx (capV_sound (t := t) r hl hx)) rfl
  · rename_i m k
    match args', ha with
    | [m', k'], .cons hm (.cons hk .nil) =>
      cases ts with
      | nil => cases h
      | cons tt ts =>
        simp only at h
        cases hl : deleteV P H tt m k with
        | none => rw [hl] at h; cases h
        | some H' => rw [hl] at h; cases h; exact okB (OkV.nx (deleteV_sound (tt := t) (ts := ts) r hl hm hk)) rfl
  · skip
    cases hf : args.all flat with
    | false => rw [hf] at h; cases h
    | true =>
      rw [hf] at h
      simp only [cond_true] at h
      rw [ha.flat_eq hf]
      split at h
      · rename_i v hv
        cases hfv : flat v with
        | false => rw [hfv] at h; cases h
        | true => rw [hfv] at h; cases h; exact okB (OkV.nx (.of_flat r hv hfv)) rfl
      · cases h
  · skip
    cases hf : args.all flat with
    | false => rw [hf] at h; cases h
    | true =>
      rw [hf] at h
      simp only [cond_true] at h
      rw [ha.flat_eq hf]
      split at h
      · rename_i v hv
        cases hfv : flat v with
        | false => rw [hfv] at h; cases h
        | true => rw [hfv] at h; cases h; exact okB (OkV.nx (.of_flat r hv hfv)) rfl
      · cases h
  · rename_i l c
    match args', ha with
    | [x'], .cons hx .nil =>
      obtain ⟨rfl, rfl, rfl⟩ := hx.inv_sliceNil
      cases h
      exact okB (OkV.nx (.of_pure r (v' := .pointer none) rfl .ptrNil)) (s := Builtin.unsafeSliceData_ ts.toArray t #[.slice none 0 0]) rfl
  · rename_i a l c
    match args', ha with
    | [x'], .cons hx .nil =>
      obtain ⟨hsp, pl, a', cap', hp, rfl, hl, hcap, haddr⟩ := hx.inv_slice
      cases hc : Nat.blt 0 c with
      | false => rw [hc] at h; cases h
      | true =>
        rw [hc] at h
        cases h
        have hc : 0 < c := by simpa [Nat.blt_eq] using hc
        have hcz : cap' ≠ 0 := by split at hcap <;> omega
        have := haddr.resolve_left hcz
        subst this
        refine okB (s := Builtin.unsafeSliceData_ ts.toArray t #[.slice (some ⟨pl.blk, pl.off + a.off, none⟩) l cap']) (OkV.nx (.of_pure r (v' := .pointer (some ⟨pl.blk, pl.off + a.off, none⟩)) ?_ (by obtain ⟨ab, ao, asp⟩ := a; simp only at hsp; subst hsp; exact .ptr hp))) rfl
        have e : Builtin.unsafeSliceData_ ts.toArray t #[.slice (some ⟨pl.blk, pl.off + a.off, none⟩) l cap'] = (if cap' ≠ 0 then pure (.pointer (some ⟨pl.blk, pl.off + a.off, none⟩)) else (do if (← viewAt pl.blk).isSome then pure (.pointer (some ⟨pl.blk, pl.off + a.off, none⟩)) else pure (.pointer (some ⟨← newObj (.view ⟨pl.blk, pl.off + a.off, none⟩ (← elemOf t)), 0, none⟩)))) := rfl
        rw [e, if_pos hcz]
        rfl
  · rename_i p n
    match args', ha with
    | [p', n'], .cons hp (.cons hn .nil) => exact okB (unsafeStringV_sound (t := t) r h hp hn) rfl
  · rename_i x
    match args', ha with
    | [x'], .cons hx .nil =>
      cases hl : clearV P H ts x with
      | none => rw [hl] at h; cases h
      | some H' => rw [hl] at h; cases h; exact okB (OkV.nx (clearV_sound (t := t) r hl hx)) rfl
  · cases h

theorem callV_sound (r : Rel P w0 base φ H w) {N : Nat} {t : Tr Value} {a : Act} (ht : TRel φ N t a.tmps) {c : Call} {type : TypeId} {nx : Nx} (h : callV P t H c type = some nx) :
    OkNx P w0 base φ w (do let d ← resolve a.eval c type; invoke d.target d.args) nx := by
  unfold callV at h
  cases hargs : evs P t c.args.toList with
  | none => rw [hargs] at h; cases h
  | some args =>
    rw [hargs] at h
    simp only at h
    have hrel := evs_sound r ht hargs
    have hmap : c.args.map a.eval = (c.args.toList.map a.eval).toArray := by rw [← Array.toList_inj]; simp
    obtain ⟨callee, cargs, cts⟩ := c
    cases callee with
    | builtin b =>
      have := builtinV_sound (cs := cargs.map fun | .const _ => true | _ => false) r h hrel
      have e : (do let d ← resolve a.eval ⟨.builtin b, cargs, cts⟩ type; invoke d.target d.args : Sem Next) = builtin b cts.toList.toArray type (cargs.map fun | .const _ => true | _ => false) (cargs.toList.map a.eval).toArray := by
        rw [← hmap]
        simp [resolve, invoke]
        rfl
      rw [e]
      exact this
    | invoke rc m => cases h
    | value f =>
      simp only at h
      cases hf : ev P t f with
      | none => rw [hf] at h; cases h
      | some fv =>
        rw [hf] at h
        have hfr := ev_sound r ht hf
        cases fv <;> (try simp only at h) <;> try cases h
        rename_i fn first captured
        cases fn <;> (try simp only at h) <;> try cases h
        · rename_i g
          generalize hfe : a.eval f = fe at hfr
          cases hfr with
          | func hF h1 h2 =>
            rename_i fn' first' captured'
            cases hF
            refine ⟨first'.toList ++ ((cargs.toList.map a.eval) ++ captured'.toList), h1.append (hrel.append h2), ?_, r⟩
            have e : (do let d ← resolve a.eval ⟨.value f, cargs, cts⟩ type; invoke d.target d.args : Sem Next) = callFunc g (first'.toList ++ ((cargs.toList.map a.eval) ++ captured'.toList)).toArray := by
              simp only [resolve, hfe, Deferred.ofValue, pure_bind, invoke]
              congr 1
              rw [← Array.toList_inj]
              simp
            rw [e]
        · rename_i l
          cases hc : first.toList.isEmpty with
          | false => rw [hc] at h; cases h
          | true =>
            rw [hc] at h
            simp only [cond_true, Option.some.injEq] at h
            subst h
            generalize hfe : a.eval f = fe at hfr
            cases hfr with
            | func hF h1 h2 =>
              rename_i fn' first' captured'
              cases hF with
              | same _ hh => exact absurd rfl (hh l)
              | yield hl =>
                rename_i pl
                have h0 : first'.toList = [] := by
                  have := h1.length
                  have h3 : first.toList.length = 0 := by simpa [List.isEmpty_iff] using hc
                  exact List.eq_nil_of_length_eq_zero (by omega)
                refine ⟨pl, cargs.toList.map a.eval, hl, hrel, ?_, r⟩
                have e : (do let d ← resolve a.eval ⟨.value f, cargs, cts⟩ type; invoke d.target d.args : Sem Next) = Instr.yield pl.blk (cargs.toList.map a.eval).toArray := by
                  have h0' : first' = #[] := by rw [← Array.toList_inj]; simpa using h0
                  simp only [resolve, hfe, Deferred.ofValue, pure_bind, invoke, h0']
                  congr 1
                  rw [← Array.toList_inj]
                  simp
                rw [e]

theorem vNx_some {o : Option Value} {nx : Nx} (h : vNx H o = some nx) : ∃ v, o = some v ∧ nx = .val v H := by
  cases o with
  | none => cases h
  | some v => cases h; exact ⟨v, rfl, rfl⟩
theorem sNx_some {o : Option Heap} {nx : Nx} (h : sNx o = some nx) : ∃ H', o = some H' ∧ nx = .skip H' := by
  cases o with
  | none => cases h
  | some v => cases h; exact ⟨v, rfl, rfl⟩

theorem evOpt_sound (r : Rel P w0 base φ H w) {N : Nat} {t : Tr Value} {a : Act} (ht : TRel φ N t a.tmps) {x : Option Operand} {v : Option Value} (h : evOpt P t x = some v) : ORel φ v (x.map a.eval) := by
  cases x with
  | none => cases h; exact ⟨by simp, rfl⟩
  | some x =>
    simp only [evOpt] at h
    cases he : ev P t x with
    | none => rw [he] at h; cases h
    | some u => rw [he] at h; cases h; exact ⟨fun y y' h1 h2 => by cases h1; cases h2; exact ev_sound r ht he, rfl⟩

theorem opV_sound (r : Rel P w0 base φ H w) {N : Nat} {t : Tr Value} {a : Act} (ht : TRel φ N t a.tmps) {o : Oper} {nx : Nx} (h : opV P t H o = some nx) :
    OkNx P w0 base φ w (execOp a.eval o) nx := by
  have E : ∀ {x v}, ev P t x = some v → VRel φ v (a.eval x) := fun h => ev_sound r ht h
  obtain ⟨dst, op, type, pos, after, guard⟩ := o
  unfold opV at h
  unfold execOp
  cases op <;> simp only at h ⊢ <;> try (cases h; done)
  case move x =>
    obtain ⟨v, h1, rfl⟩ := vNx_some h
    exact ⟨φ, _, w, .refl φ, rfl, E h1, r⟩
  case assign x =>
    obtain ⟨v, h1, rfl⟩ := vNx_some h
    exact ⟨φ, _, w, .refl φ, rfl, E h1, r⟩
  case pick c x y =>
    split at h
    · rename_i hc
      split at h
      · obtain ⟨v, h1, rfl⟩ := vNx_some h
        have := (E hc).inv_bool
        exact ⟨φ, _, w, .refl φ, by simp [this, asBool], E h1, r⟩
      · cases h
    · rename_i hc
      split at h
      · obtain ⟨v, h1, rfl⟩ := vNx_some h
        have := (E hc).inv_bool
        exact ⟨φ, _, w, .refl φ, by simp [this, asBool], E h1, r⟩
      · cases h
    · cases h
  case alloc e =>
    cases hz : zeroT P e with
    | none => rw [hz] at h; cases h
    | some z =>
      rw [hz] at h; cases h
      obtain ⟨_, _, _, hzf, _⟩ := zeroT_spec hz
      obtain ⟨φ', v', w', q1, q2, q3, q4⟩ := newV_sound r (t := e) (VRel.refl φ hzf)
      exact OkV.nx ⟨φ', v', w', q1, by simpa [Instr.alloc, run_zero hz] using q2, q3, q4⟩
  case box e x =>
    cases hx : ev P t x with
    | none => rw [hx] at h; cases h
    | some v => rw [hx] at h; cases h; exact OkV.nx (newV_sound r (E hx))
  case build ty ps =>
    cases hp : evParts P t ps.toList with
    | none => rw [hp] at h; cases h
    | some l =>
      rw [hp] at h
      obtain ⟨v, h1, rfl⟩ := vNx_some h
      have := buildV_sound r h1 (evParts_sound r ht hp)
      have e : (ps.map fun x => match x with | (i, x) => (i, a.eval x)) = (ps.toList.map fun (i, x) => (i, a.eval x)).toArray := by rw [← Array.toList_inj]; simp
      rw [e]
      exact OkV.nx this
  case buildSlice ty len ps =>
    cases hp : evParts P t ps.toList with
    | none => rw [hp] at h; cases h
    | some l =>
      rw [hp] at h
      have := buildSliceV_sound r h (evParts_sound r ht hp)
      have e : (ps.map fun x => match x with | (i, x) => (i, a.eval x)) = (ps.toList.map fun (i, x) => (i, a.eval x)).toArray := by rw [← Array.toList_inj]; simp
      rw [e]
      exact this
  case load ty ad =>
    split at h
    · rename_i b o hx
      obtain ⟨v, h1, rfl⟩ := vNx_some h
      exact OkV.nx (loadV_sound r h1 (E hx))
    · cases h
  case store ty ad x =>
    split at h
    · rename_i b o v hx hv
      obtain ⟨H', h1, rfl⟩ := sNx_some h
      exact OkU.nx (storeV_sound r h1 (E hx) (E hv))
    · cases h
  case nilCheck x =>
    cases hx : ev P t x with
    | none => rw [hx] at h; cases h
    | some v =>
      rw [hx] at h
      simp only at h
      cases hc : nilChecked v with
      | false => rw [hc] at h; cases h
      | true =>
        rw [hc] at h; cases h
        have hv := E hx
        generalize a.eval x = v' at hv
        refine ⟨φ, v', w, .refl φ, ?_, hv, r⟩
        cases hv <;> first | rfl | (simp [nilChecked] at hc; done) | skip
        rename_i fn fn' f f' c c' hF h1 h2
        cases hF with
        | same _ hh => cases fn <;> first | rfl | (simp [nilChecked] at hc; done)
        | yield hl => rfl
  case binOp op xt x y yt =>
    split at h
    · rename_i va vb hx hy
      obtain ⟨v, h1, rfl⟩ := vNx_some h
      exact OkV.nx (binOpV_sound r h1 (E hx) (E hy))
    · cases h
  case unOp op xt x =>
    cases hx : ev P t x with
    | none => rw [hx] at h; cases h
    | some v =>
      rw [hx] at h
      simp only at h
      cases hf : flat v with
      | false => rw [hf] at h; cases h
      | true =>
        rw [hf] at h
        simp only [cond_true] at h
        rw [flat_eq (E hx) hf]
        split at h
        · rename_i u hu
          cases hfu : flat u with
          | false => rw [hfu] at h; cases h
          | true => rw [hfu] at h; cases h; exact OkV.nx (.of_flat r hu hfu)
        · cases h
  case convert src dst x =>
    cases hx : ev P t x with
    | none => rw [hx] at h; cases h
    | some v => rw [hx] at h; exact convertV_sound r h (E hx)
  case makeInterface xt x =>
    cases hx : ev P t x with
    | none => simp [hx] at h
    | some v =>
      cases hd : P.underlying xt with
      | none => simp [hx, hd] at h
      | some d =>
        have key : (∀ ms, d ≠ .interface ms) → nx = .val (.iface xt v) H := by
          intro hn
          cases d <;> first | (exact absurd rfl (hn _)) | (simp [hx, hd] at h; exact h.symm)
        have hn : ∀ ms, d ≠ .interface ms := by intro ms e; subst e; simp [hx, hd] at h
        rw [key hn]
        refine OkV.nx (.of_pure r (v' := .iface xt (a.eval x)) ?_ (.iface (E hx)))
        cases d <;> first | (exact absurd rfl (hn _)) | simp [Instr.makeInterface, run_under hd]
  case makeFunc fn first captured =>
    split at h
    · rename_i f c hf hc
      have h1 := evs_sound r ht hf
      have h2 := evs_sound r ht hc
      cases fn <;> simp only at h <;> try cases h
      all_goals
        refine OkV.nx (.of_pure r (v' := .func _ (first.map a.eval) (captured.map a.eval)) rfl (.func (.same _ (by intro l; simp)) ?_ ?_))
        · simpa using h1
        · simpa using h2
    · cases h
  case makeMap ty rs =>
    cases rs with
    | some _ => cases h
    | none =>
      cases h
      obtain ⟨φ', q1, q2, q3, q4⟩ := newObj_sound (P := P) r (.map [] 0) (.map #[] 0) (fun φ' _ hh => ⟨r.low, #[], hh, .nil⟩)
      refine OkV.nx ⟨φ', .map (some w.heap.size), _, q1, ?_, .map q2, q4⟩
      simp [Instr.makeMap]
  case makeSlice ty l c =>
    split at h
    · rename_i va vb hx hy
      exact makeSliceV_sound r h (E hx) (E hy)
    · cases h
  case slice ty x lo hi mx =>
    split at h
    · rename_i va l hh m hx hl hh' hm
      obtain ⟨v, h1, rfl⟩ := vNx_some h
      exact OkV.nx (sliceV_sound r h1 (E hx) (evOpt_sound r ht hl) (evOpt_sound r ht hh') (evOpt_sound r ht hm))
    · cases h
  case fieldAddr s x f =>
    cases hx : ev P t x with
    | none => rw [hx] at h; cases h
    | some v =>
      rw [hx] at h
      obtain ⟨v, h1, rfl⟩ := vNx_some h
      exact OkV.nx (fieldAddrV_sound r h1 (E hx))
  case field xt x f =>
    cases hx : ev P t x with
    | none => rw [hx] at h; cases h
    | some v =>
      rw [hx] at h
      obtain ⟨v, h1, rfl⟩ := vNx_some h
      exact OkV.nx (fieldV_sound r h1 (E hx))
  case indexAddr ty x i =>
    split at h
    · rename_i va vb hx hy
      obtain ⟨v, h1, rfl⟩ := vNx_some h
      exact OkV.nx (indexAddrV_sound r h1 (E hx) (E hy))
    · cases h
  case index xt x i =>
    split at h
    · rename_i va vb hx hy
      cases hf : (flat va && flat vb) with
      | false => rw [hf] at h; cases h
      | true =>
        rw [hf] at h
        simp only [cond_true] at h
        simp only [Bool.and_eq_true] at hf
        rw [flat_eq (E hx) hf.1, flat_eq (E hy) hf.2]
        split at h
        · rename_i u hu
          cases hfu : flat u with
          | false => rw [hfu] at h; cases h
          | true => rw [hfu] at h; cases h; exact OkV.nx (.of_flat r hu hfu)
        · cases h
    · cases h
  case lookup xt x i ok =>
    split at h
    · rename_i va vb hx hy
      obtain ⟨v, h1, rfl⟩ := vNx_some h
      exact OkV.nx (lookupV_sound r h1 (E hx) (E hy))
    · cases h
  case mapUpdate ty m k x =>
    split at h
    · rename_i va vb vc hx hy hz
      obtain ⟨H', h1, rfl⟩ := sNx_some h
      exact OkU.nx (mapSet_sound r h1 (E hx) (E hy) (E hz))
    · cases h
  case insert ty m k x =>
    split at h
    · rename_i va vb vc hx hy hz
      obtain ⟨H', h1, rfl⟩ := sNx_some h
      exact OkU.nx (mapSet_sound r h1 (E hx) (E hy) (E hz))
    · cases h
  case mapEntry ty m k =>
    split at h
    · rename_i va vb hx hy
      exact mapEntryV_sound r h (E hx) (E hy)
    · cases h
  case entryStore ty m s x =>
    split at h
    · rename_i va vb vc hx hy hz
      obtain ⟨H', h1, rfl⟩ := sNx_some h
      exact OkU.nx (entryStoreV_sound r h1 (E hx) (E hy) (E hz))
    · cases h
  case range xt x =>
    cases hx : ev P t x with
    | none => rw [hx] at h; cases h
    | some v => rw [hx] at h; exact rangeV_sound r h (E hx)
  case next it str =>
    cases str with
    | true => cases h
    | false =>
      simp only at h
      cases hx : ev P t it with
      | none => rw [hx] at h; cases h
      | some v => rw [hx] at h; exact nextV_sound r h (E hx)
  case entry it =>
    cases hx : ev P t it with
    | none => rw [hx] at h; cases h
    | some v =>
      rw [hx] at h
      obtain ⟨u, h1, rfl⟩ := vNx_some h
      exact OkV.nx (entryV_sound r h1 (E hx))
  case extract x i =>
    split at h
    · rename_i vs hx
      obtain ⟨v, h1, rfl⟩ := vNx_some h
      obtain ⟨c', e, hc⟩ := (E hx).inv_tuple
      obtain ⟨v', g1, g2⟩ := hc.get (i := i) (v := v) (by simpa using h1)
      have g1' : c'[i]? = some v' := by simpa using g1
      exact OkV.nx (.of_pure r (v' := v') (by rw [e]; simp [Instr.extract, g1']) g2)
    · cases h
  case call c => exact callV_sound r ht h

end
end Go.Eng
