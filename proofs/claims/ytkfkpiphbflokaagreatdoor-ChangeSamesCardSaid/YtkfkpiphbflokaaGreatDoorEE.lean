/- The engine, part 14: calls. -/
import Derived.Test.YtkfkpiphbflokaaGreatDoorED
namespace Go.Eng
open Go.RowKit (Below)
set_option linter.unusedSectionVars false
variable [Sig]

section
variable {P : Program} {w0 : Cx} {base : Nat} {φ : Emb} {H : Heap} {w : World}

theorem ofArgs_get_go : ∀ (l : List Value) (i : Nat) (t : Tr Value) (j : Nat), (ofArgs.go l i t).get undef j = if i ≤ j ∧ j < i + l.length then l.getD (j - i) undef else t.get undef j
  | [], i, t, j => by simp [ofArgs.go]; omega
  | v :: vs, i, t, j => by
    simp only [ofArgs.go, Tr.strict_eq]
    rw [ofArgs_get_go vs (i + 1)]
    by_cases h1 : i + 1 ≤ j ∧ j < i + 1 + vs.length
    · rw [if_pos h1, if_pos ⟨by omega, by simp; omega⟩]
      rw [show j - i = (j - (i + 1)) + 1 by omega]
      simp
    · rw [if_neg h1, Tr.get_set]
      by_cases h2 : j = i
      · subst h2
        rw [if_pos rfl, if_pos ⟨Nat.le_refl _, by simp⟩]
        simp
      · rw [if_neg h2, if_neg (by simp; omega)]

theorem ofArgs_get (l : List Value) (j : Nat) : (ofArgs l).get undef j = l.getD j undef := by
  unfold ofArgs
  rw [ofArgs_get_go]
  by_cases h : j < l.length
  · rw [if_pos ⟨Nat.zero_le _, by omega⟩]; simp
  · rw [if_neg (by omega)]
    simp [Tr.get, List.getD_eq_getElem?_getD, List.getElem?_eq_none (Nat.le_of_not_lt h)]

theorem ofArgs_rel {args args' : List Value} (h : VRels φ args args') {N : Nat} (hl : args.length ≤ N) : TRel φ N (ofArgs args) (args'.toArray ++ Array.replicate (N - args'.toArray.size) undef) := by
  have hlen := h.length
  refine ⟨by simp; omega, fun i => ?_⟩
  rw [ofArgs_get]
  by_cases hi : i < args.length
  · obtain ⟨v', q1, q2⟩ := h.get (List.getElem?_eq_getElem hi)
    have e1 : args.getD i undef = args[i] := by simp [hi]
    have e2 : (args'.toArray ++ Array.replicate (N - args'.toArray.size) undef).getD i undef = v' := by
      rw [Array.getD_eq_getD_getElem?, Array.getElem?_append_left (by simp; omega)]
      simp [q1]
    rw [e1, e2]; exact q2
  · have e1 : args.getD i undef = undef := by simp [List.getD_eq_getElem?_getD, List.getElem?_eq_none (Nat.le_of_not_lt hi)]
    have e2 : (args'.toArray ++ Array.replicate (N - args'.toArray.size) undef).getD i undef = undef := by
      rw [Array.getD_eq_getD_getElem?, Array.getElem?_append_right (by simp; omega)]
      simp only [Array.getElem?_replicate]
      split <;> rfl
    rw [e1, e2]; exact .undef φ

/-- A result variable's value. -/
def resOne (tmps : Array Value) : ResultVar → Sem Value
  | .tmp t => pure (tmps.getD t undef)
  | .cell a t => do loadVar t (← asAddr (tmps.getD a undef))
theorem results_eq (fn : Func) (tmps : Array Value) : results fn tmps = (do let vs ← fn.results.mapM (resOne tmps); pure (if h : vs.size = 1 then vs[0] else .tuple vs)) := by
  unfold results
  have : (fun x => match x with | ResultVar.tmp t => pure (tmps.getD t undef) | ResultVar.cell a t => do loadVar t (← asAddr (tmps.getD a undef)) : ResultVar → Sem Value) = resOne tmps := by
    funext x; cases x <;> rfl
  rw [← this]
  rfl

theorem resultV_sound (r : Rel P w0 base φ H w) {N : Nat} {t : Tr Value} {tmps : Array Value} (ht : TRel φ N t tmps) {x : ResultVar} {v : Value} (h : resultV P t H x = some v) :
    ∃ v', (resOne tmps x).run P w = .ok v' w ∧ VRel φ v v' := by
  cases x with
  | tmp i => simp [resultV] at h; subst h; exact ⟨_, rfl, ht.get i⟩
  | cell i ty =>
    simp only [resultV] at h
    split at h
    · rename_i b o hg
      have hv := ht.get i
      rw [hg] at hv
      obtain ⟨v', q1, q2⟩ := loadV_pure r h hv
      obtain ⟨_, pl, hp, he⟩ := hv.inv_ptr
      refine ⟨v', ?_, q2⟩
      rw [he] at q1
      simp only [resOne]
      rw [he]
      simpa [Instr.loadAt, Instr.sureAddr, asAddr] using q1
    · cases h

theorem resultVs_sound (r : Rel P w0 base φ H w) {N : Nat} {t : Tr Value} {tmps : Array Value} (ht : TRel φ N t tmps) : ∀ {l : List ResultVar} {vs : List Value}, resultVs P t H l = some vs →
    ∃ vs', (l.mapM (resOne tmps)).run P w = .ok vs' w ∧ VRels φ vs vs'
  | [], vs, h => by simp [resultVs] at h; subst h; exact ⟨[], rfl, .nil⟩
  | x :: l, vs, h => by
    simp only [resultVs] at h
    cases h1 : resultV P t H x with
    | none => rw [h1] at h; cases h
    | some v =>
      rw [h1] at h
      cases h2 : resultVs P t H l with
      | none => rw [h2] at h; cases h
      | some vs2 =>
        rw [h2] at h; cases h
        obtain ⟨v', q1, q2⟩ := resultV_sound r ht h1
        obtain ⟨vs', q3, q4⟩ := resultVs_sound r ht h2
        refine ⟨v' :: vs', ?_, .cons q2 q4⟩
        simp only [List.mapM_cons, Sem.run_bind, q1, Result.andThen_ok, q3, Sem.run_pure]

theorem results_sound (r : Rel P w0 base φ H w) {fn : Func} {t : Tr Value} {tmps : Array Value} {N : Nat} (ht : TRel φ N t tmps) {vs : List Value} (h : resultVs P t H fn.results.toList = some vs) :
    ∃ v', (results fn tmps).run P w = .ok v' w ∧ VRel φ (oneOr vs) v' := by
  obtain ⟨vs', q1, q2⟩ := resultVs_sound r ht h
  have hm : (fn.results.mapM (resOne tmps)).run P w = .ok vs'.toArray w := by
    rw [Array.mapM_eq_mapM_toList]
    simp only [Sem.run_map, q1, Result.andThen_ok]
  have hl := q2.length
  rw [results_eq]
  simp only [Sem.run_bind, hm, Result.andThen_ok]
  match vs, vs', q2, hl with
  | [], [], _, _ => exact ⟨_, rfl, .tuple .nil⟩
  | [v], [v'], .cons hv .nil, _ => exact ⟨v', rfl, hv⟩
  | v :: u :: l, v' :: u' :: l', hrel, _ =>
    refine ⟨.tuple (v' :: u' :: l').toArray, ?_, .tuple (by simpa [oneOr] using hrel)⟩
    simp

theorem marks_sound {fn : Func} {n N : Nat} {t : Tr Value} {vs : List Value} {tmps : Array Value} {R : Ending → World → Prop} {H2 : Heap} (hR : ∀ φ' v' w', φ.le φ' → VRel φ' (oneOr vs) v' → Rel P w0 base φ' H2 w' → R (.returned v') w') :
    ∀ {m : List Nat} {ds : List Deferred} {H : Heap} {w : World}, takeMarks m H = some H2 → Rel P w0 base φ H w → TRel φ N t tmps → MRel φ m ds → resultVs P t H2 fn.results.toList = some vs →
      LeavesInM Fence.wide n P fn tmps R ds .returning w
  | [], _, H, w, hm, r, ht, .nil, hres => by
    simp only [takeMarks, Option.some.injEq] at hm
    subst hm
    obtain ⟨v', q1, q2⟩ := results_sound r ht hres
    exact ⟨v', q1, hR φ v' w (.refl φ) q2 r⟩
  | b :: m, _, H, w, hm, r, ht, .cons hb hmr, hres => by
    rename_i pl ds
    simp only [takeMarks] at hm
    split at hm
    · rename_i hg
      have hbk := r.blk _ _ hb
      rw [hg] at hbk
      have hown : (H.get b).own = true := by rw [hg]; rfl
      have r2 := r.putObj hb hown .dead (.deferred none) (fun _ => trivial)
      exact ⟨by simp, .inl ⟨pl.blk, _, rfl, run_takeDeferred hbk.2, marks_sound hR hm r2 ht hmr hres⟩⟩
    · cases hm

theorem funcV_sound {h : Hands} (ho : HandsOK P h) (hdr : DrawOK P h) {L : Nat} {f : FuncId} {fn : Func} (hf : P.funcs[f]? = some fn) {args : List Value} {v : Value} {H' : Heap} (hc : funcV P h L fn args H = some (v, H'))
    {args' : List Value} (r : Rel P w0 base φ H w) (ha : VRels φ args args') (n : Nat) (R : Ending → World → Prop) (hR : ∀ φ' v' w', φ.le φ' → VRel φ' v v' → Rel P w0 base φ' H' w' → R (.returned v') w') :
    (callFunc f args'.toArray).run P w = .ok (.enter f args'.toArray) w ∧ CallsIn Fence.wide n P f args'.toArray w R := by
  unfold funcV at hc
  cases hb : fn.body with
  | none => rw [hb] at hc; cases hc
  | some c =>
    rw [hb] at hc
    simp only at hc
    cases hg : (Nat.ble args.length fn.ntmps && !(fn.name == "runtime.NumGoroutine")) with
    | false => rw [hg] at hc; cases hc
    | true =>
      rw [hg] at hc
      simp only [cond_true] at hc
      simp only [Bool.and_eq_true, Bool.not_eq_true'] at hg
      have hle := Nat.le_of_ble_eq_true hg.1
      refine ⟨?_, ?_⟩
      · simp only [callFunc, Sem.run_bind, run_program, Result.andThen_ok, hf, hg.2, hb]
        simp
      · cases hcode : codeV P h L none fn.ntmps c (ofArgs args) [] H with
        | none => rw [hcode] at hc; cases hc
        | some out =>
          obtain ⟨e, t, m, H1⟩ := out
          rw [hcode] at hc
          simp only at hc
          cases he : endOk e with
          | false => rw [he] at hc; cases hc
          | true =>
            rw [he] at hc
            simp only [cond_true] at hc
            cases htm : takeMarks m H1 with
            | none => rw [htm] at hc; cases hc
            | some H2 =>
              rw [htm] at hc
              simp only at hc
              cases hrs : resultVs P t H2 fn.results.toList with
              | none => rw [hrs] at hc; cases hc
              | some vs =>
                rw [hrs] at hc
                simp only [Option.some.injEq, Prod.mk.injEq] at hc
                obtain ⟨rfl, rfl⟩ := hc
                refine callsIn_of_wp_marks hf hb trivial ?_
                refine codeV_sound ho hdr L c hcode r (ofArgs_rel ha hle) .nil .out fun φ' a' w' hle' r' ht' hm' => ?_
                have := marks_sound (fn := fn) (n := n) (R := R) (fun φ2 v2 w2 hle2 hv2 r2 => hR φ2 v2 w2 (hle'.trans hle2) hv2 r2) htm r' ht' hm' hrs
                cases e with
                | normal => exact this
                | ret => exact this
                | exit id => cases he

theorem setParams_sound {N : Nat} : ∀ {ps : List Tmp} {args args' : List Value} {t t' : Tr Value} {tmps : Array Value}, setParams N ps args t = some t' → VRels φ args args' → TRel φ N t tmps →
    TRel φ N t' ((ps.zip args').foldl (fun (tm : Array Value) (x : Tmp × Value) => tm.setIfInBounds x.1 x.2) tmps) ∧ args'.length = ps.length
  | [], [], _, t, t', tmps, h, .nil, ht => by simp [setParams] at h; subst h; exact ⟨ht, rfl⟩
  | p :: ps, v :: vs, _, t, t', tmps, h, .cons hv hvs, ht => by
    rename_i v' vs'
    simp only [setParams] at h
    cases hb : Nat.blt p N with
    | false => rw [hb] at h; cases h
    | true =>
      rw [hb] at h
      simp only [cond_true] at h
      have h1 : putV N t (some p) v = some (t.set undef p v) := by simp [putV, hb, Tr.strict_eq]
      have h2 := putV_sound (a := ⟨tmps, []⟩) h1 ht hv
      obtain ⟨q1, q2⟩ := setParams_sound h hvs h2
      exact ⟨q1, by simp [q2]⟩
  | [], _ :: _, _, _, _, _, h, _, _ => by simp [setParams] at h
  | _ :: _, [], _, _, _, _, h, _, _ => by simp [setParams] at h

theorem yieldV_sound {h : Hands} (ho : HandsOK P h) (hdr : DrawOK P h) {L l : Nat} {args : List Value} {v : Value} {H' : Heap} (hc : yieldV P h L l args H = some (v, H'))
    {args' : List Value} {pl : Pl} (r : Rel P w0 base φ H w) (ha : VRels φ args args') (hp : φ l = some pl) (n : Nat) (R : Ending → World → Prop) (hR : ∀ φ' v' w', φ.le φ' → VRel φ' v v' → Rel P w0 base φ' H' w' → R (.returned v') w') :
    ∃ fn tmps assign body, (Instr.yield pl.blk args'.toArray).run P w = .ok (.round pl.blk fn tmps assign body) w ∧ RoundIn Fence.wide n P pl.blk fn tmps assign body w R := by
  unfold yieldV at hc
  split at hc
  · rename_i st0 pend0 N t ps assign body hg
    have hb := r.blk _ _ hp
    rw [hg] at hb
    obtain ⟨hbase, rec, e1, e2, e3, e4, e5, e6, e7⟩ := hb
    split at hc
    · rename_i t1 hsp
      obtain ⟨s1, s2⟩ := setParams_sound hsp ha e7
      split at hc
      · rename_i t2 H2 hasg
        split at hc
        · rename_i st pend N' tm ps' as bd hg2
          cases hr : isReady st with
          | false => rw [hr] at hc; cases hc
          | true =>
            rw [hr] at hc
            simp only [cond_true] at hc
            split at hc
            · rename_i e t3 H3 hbody
              split at hc
              · rename_i st4 pend4 N4 tm4 ps4 as4 bd4 hg4
                simp only [Option.some.injEq, Prod.mk.injEq] at hc
                obtain ⟨rfl, rfl⟩ := hc
                have hfold : ((rec.params.zip args'.toArray).foldl (fun tmps (x : Tmp × Value) => match x with | (t, a) => tmps.setIfInBounds t a) rec.tmps) = ((ps.zip args').foldl (fun (tm : Array Value) (x : Tmp × Value) => tm.setIfInBounds x.1 x.2) rec.tmps) := by
                  rw [← Array.foldl_toList, Array.toList_zip, e4]
                have hsz : args'.toArray.size = rec.params.size := by
                  have h0 : rec.params.toList.length = ps.length := by rw [e4]
                  simp only [Array.length_toList] at h0
                  simp [s2, h0]
                refine ⟨rec.fn, _, rec.assign, rec.body, run_yield e1 hsz, ?_⟩
                rw [hfold]
                refine roundIn_of_wpIn trivial ?_
                rw [e5, e6]
                refine codeV_sound ho hdr L assign hasg r s1 .nil (.inn hp) fun φ2 a2 w2 hle2 r2 ht2 hm2 => ?_
                show ∃ w₂, _
                have hb2 := r2.blk _ _ (hle2 _ _ hp)
                rw [hg2] at hb2
                obtain ⟨_, rec2, f1, f2, f3, f4, f5, f6, f7⟩ := hb2
                have hst : rec2.state = .ready := by
                  rw [f2]; cases st <;> first | rfl | (simp [isReady] at hr)
                refine ⟨_, run_beginRound f1 hst, ?_⟩
                have hown2 : (H2.get l).own = true := by rw [hg2]; rfl
                have r3 := r2.putObj (hle2 _ _ hp) hown2 (.loop .busy pend N' tm ps' as bd) (.loop { rec2 with state := .busy }) (fun hh => ⟨hbase, _, hh, rfl, f3, f4, f5, f6, f7⟩)
                refine codeV_sound ho hdr L body hbody r3 ht2 hm2 (.inn (hle2 _ _ hp)) fun φ4 a4 w4 hle4 r4 ht4 hm4 => ?_
                have hb4 := r4.blk _ _ (hle4 _ _ (hle2 _ _ hp))
                rw [hg4] at hb4
                obtain ⟨_, rec4, g1, g2, g3, g4, g5, g6, g7⟩ := hb4
                have hown4 : (H3.get l).own = true := by rw [hg4]; rfl
                have fin : ∀ jump : Option Code, e.jump = jump → ∃ v w', (Instr.endRound pl.blk jump).run P w4 = .ok v w' ∧ R (.returned v) w' := by
                  intro jump hj
                  subst hj
                  refine ⟨_, _, run_endRound _ g1, hR φ4 _ _ (hle2.trans hle4) (.bool _) ?_⟩
                  refine r4.putObj (hle4 _ _ (hle2 _ _ hp)) hown4 _ _ (fun hh => ⟨hbase, _, hh, ?_, rfl, g4, g5, g6, g7⟩)
                  cases e <;> rfl
                cases e with
                | normal => exact fin none rfl
                | exit id => exact fin (some (.exit id)) rfl
                | ret => exact fin (some .ret) rfl
              · cases hc
            · cases hc
        · cases hc
      · cases hc
    · cases hc
  · cases hc

end
end Go.Eng
