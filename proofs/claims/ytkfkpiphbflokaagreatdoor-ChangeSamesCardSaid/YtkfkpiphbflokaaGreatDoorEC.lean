/- The engine, part 12: steps of a region. -/
import Derived.Test.YtkfkpiphbflokaaGreatDoorEB
namespace Go.Eng
open Go.RowKit (Below)
set_option linter.unusedSectionVars false
variable [Sig]

section
variable {P : Program} {w0 : Cx} {base : Nat} {φ : Emb} {H : Heap} {w : World}

/-- How a call is met. -/
structure HandsOK (P : Program) (h : Hands) : Prop where
  call : ∀ {f : FuncId} {args : List Value} {H : Heap} {v : Value} {H' : Heap}, h.call f args H = some (v, H') → ∀ {w0 : Cx} {base : Nat} {φ : Emb} {w : World} {args' : List Value},
    Rel P w0 base φ H w → VRels φ args args' → ∀ (n : Nat) (R : Ending → World → Prop),
    (∀ φ' v' w', φ.le φ' → VRel φ' v v' → Rel P w0 base φ' H' w' → R (.returned v') w') →
    (∃ as', (callFunc f args'.toArray).run P w = .ok (.enter f as') w ∧ CallsIn Fence.wide n P f as' w R) ∨ (∃ v' w', (callFunc f args'.toArray).run P w = .ok (.value v') w' ∧ R (.returned v') w')
  yield : ∀ {l : Nat} {args : List Value} {H : Heap} {v : Value} {H' : Heap}, h.yield l args H = some (v, H') → ∀ {w0 : Cx} {base : Nat} {φ : Emb} {w : World} {args' : List Value} {pl : Pl},
    Rel P w0 base φ H w → VRels φ args args' → φ l = some pl → ∀ (n : Nat) (R : Ending → World → Prop),
    (∀ φ' v' w', φ.le φ' → VRel φ' v v' → Rel P w0 base φ' H' w' → R (.returned v') w') →
    ∃ fn tmps assign body, (Instr.yield pl.blk args'.toArray).run P w = .ok (.round pl.blk fn tmps assign body) w ∧ RoundIn Fence.wide n P pl.blk fn tmps assign body w R

  bin : ∀ {op : BinOp} {xt : TypeId} {a b v : Value}, h.bin op xt a b = some v → ∀ {φ : Emb} {a' b' : Value}, VRel φ a a' → VRel φ b b' → ∀ (x y : Operand) (w : World),
    ∃ v', (do eqGuard op xt x y a' b'; binOp op xt a' b').run P w = .ok v' w ∧ VRel φ v v'
  un : ∀ {op : Op} {xs : List Operand} {vs : List Value} {v : Value}, unOps op = some xs → h.un op vs = some v → ∀ {φ : Emb} {vs' : List Value}, VRels φ vs vs' → ∀ (e : Operand → Value), xs.map e = vs' → ∀ (o : Oper), o.op = op → ∀ (w : World), Below Sig.lim Sig.old w →
    ∃ v', (execOp e o).run P w = .ok (.value v') w ∧ VRel φ v v'

theorem opW_sound {h : Hands} (ho : HandsOK P h) (r : Rel P w0 base φ H w) {N : Nat} {t : Tr Value} {a : Act} (ht : TRel φ N t a.tmps) {o : Oper} {nx : Nx} (hx : opW P h t H o = some nx) :
    OkNx P w0 base φ w (execOp a.eval o) nx := by
  unfold opW at hx
  split at hx
  · rename_i op xt x y yt hop
    split at hx
    · rename_i va vb ha hb
      split at hx
      · rename_i v hv
        simp only [Option.some.injEq] at hx
        subst hx
        obtain ⟨v', q1, q2⟩ := ho.bin hv (ev_sound r ht ha) (ev_sound r ht hb) x y w
        refine ⟨φ, v', w, .refl φ, ?_, q2, r⟩
        unfold execOp
        rw [hop]
        simp only [Sem.run_bind, q1, Result.andThen_ok, Sem.run_pure] at q1 ⊢
      · exact opV_sound r ht hx
    · cases hx
  · rename_i op hop
    split at hx
    · rename_i xs hxs
      split at hx
      · rename_i vs hvs
        split at hx
        · rename_i v hv
          simp only [Option.some.injEq] at hx
          subst hx
          obtain ⟨v', q1, q2⟩ := ho.un hxs hv (evs_sound r ht hvs) a.eval rfl o rfl w r.told
          exact ⟨φ, v', w, .refl φ, q1, q2, r⟩
        · exact opV_sound r ht hx
      · exact opV_sound r ht hx
    · exact opV_sound r ht hx

def Wide (F : Fence) : Prop := F = Fence.wide ∨ ∃ l, F = Fence.wide.inRound l
theorem Wide.fn {F : Fence} (h : Wide F) (f : FuncId) : F.fn f := by rcases h with rfl | ⟨l, rfl⟩ <;> exact trivial
theorem Wide.depth {F : Fence} (h : Wide F) {n : Nat} : F.depth.isSome = true → 1 ≤ n := by rcases h with rfl | ⟨l, rfl⟩ <;> simp [Fence.wide, Fence.inRound]
theorem Wide.calls {F : Fence} (h : Wide F) {n : Nat} {f : FuncId} {args : Array Value} {R : Ending → World → Prop} (hc : CallsIn Fence.wide n P f args w R) : CallsIn F n P f args w R := by
  rcases h with rfl | ⟨l, rfl⟩ <;> exact hc
theorem Wide.rounds {F : Fence} (h : Wide F) {n l : Nat} {f : FuncId} {tmps : Array Value} {as bd : Code} {R : Ending → World → Prop} (hc : RoundIn Fence.wide n P l f tmps as bd w R) : RoundIn F n P l f tmps as bd w R := by
  rcases h with rfl | ⟨l, rfl⟩ <;> exact hc

theorem putV_sound {N : Nat} {t t' : Tr Value} {a : Act} {d : Option Tmp} {v v' : Value} (h : putV N t d v = some t') (ht : TRel φ N t a.tmps) (hv : VRel φ v v') : TRel φ N t' (a.put d v').tmps := by
  cases d with
  | none => simp [putV] at h; subst h; exact ht
  | some d =>
    simp only [putV, Tr.strict_eq] at h
    cases hb : Nat.blt d N with
    | false => rw [hb] at h; cases h
    | true =>
      rw [hb] at h
      simp only [cond_true, Option.some.injEq] at h
      subst h
      have hlt : d < N := by simpa [Nat.blt_eq] using hb
      refine ⟨by simp [Act.put, ht.size], fun i => ?_⟩
      rw [Tr.get_set]
      simp only [Act.put]
      by_cases e : i = d
      · subst e
        rw [if_pos rfl]
        have : i < a.tmps.size := by rw [ht.size]; exact hlt
        simpa [Array.getD_eq_getD_getElem?, this] using hv
      · rw [if_neg e]
        have := ht.get i
        rw [Array.getD_eq_getD_getElem?] at this ⊢
        rwa [Array.getElem?_setIfInBounds_ne (fun e' => e e'.symm)]
theorem put_defers (a : Act) (d : Option Tmp) (v : Value) : (a.put d v).defers = a.defers := by cases d <;> rfl

theorem wanted_eq {N : Nat} {t : Tr Value} {a : Act} (ht : TRel φ N t a.tmps) {ops : Array Oper} {o : Oper} (hk : guardKnown ops t o = true) : Region.wanted o (yielded ops a.tmps) = wantedV ops t o := by
  unfold Region.wanted wantedV
  cases hg : o.guard with
  | none => rfl
  | some g =>
    obtain ⟨j, want⟩ := g
    simp only [yielded]
    unfold guardKnown at hk
    rw [hg] at hk
    simp only at hk
    cases hd : (ops[j]?).bind (·.dst) with
    | none => simp
    | some d =>
      rw [hd] at hk
      simp only [Option.bind_some] at hk ⊢
      have hv := ht.get d
      rw [Array.getD_eq_getD_getElem?] at hv
      cases hx : a.tmps[d]? with
      | none =>
        rw [hx] at hv
        simp only [Option.getD_none] at hv
        generalize hu : t.get undef d = u at hv hk
        have hun : undef = .tuple #[] := rfl
        rw [hun] at hv
        generalize hz : Value.tuple #[] = z at hv
        cases hv <;> first | (simp at hk; done) | (cases hz; done) | simp
      | some y =>
        rw [hx] at hv
        simp only [Option.getD_some] at hv
        generalize hu : t.get undef d = u at hv hk
        cases hv <;> first | (simp at hk; done) | simp

theorem stepV_sound {h : Hands} (ho : HandsOK P h) {F : Fence} (hF : Wide F) {n N : Nat} {ops : Array Oper} {o : Oper} {t t' : Tr Value} {H' : Heap} {a : Act} {i : Nat} {Q : Exit → Act → World → Prop} {K : Act → World → Prop}
    (hs : stepV P h N ops o t H = some (t', H')) (r : Rel P w0 base φ H w) (ht : TRel φ N t a.tmps) (hi : ops[i]? = some o)
    (hK : ∀ φ' a' w', φ.le φ' → Rel P w0 base φ' H' w' → TRel φ' N t' a'.tmps → a'.defers = a.defers → K a' w') : wpOpIn F n P ops Q i K a w := by
  unfold stepV at hs
  cases hgk : guardKnown ops t o with
  | false => rw [hgk] at hs; cases hs
  | true =>
  rw [hgk] at hs
  simp only [cond_true] at hs
  unfold wpOpIn
  rw [hi]
  simp only
  rw [wanted_eq ht hgk]
  cases hw : wantedV ops t o with
  | false =>
    rw [hw] at hs
    simp only [cond_false] at hs
    simp only [Bool.false_eq_true, if_false]
    cases hp : putV N t o.dst undef with
    | none => rw [hp] at hs; cases hs
    | some t2 =>
      rw [hp] at hs
      simp only [Option.some.injEq, Prod.mk.injEq] at hs
      obtain ⟨rfl, rfl⟩ := hs
      exact ⟨fun f _ => hF.fn f, hK φ _ w (.refl φ) r (putV_sound hp ht (VRel.undef φ)) (put_defers _ _ _)⟩
  | true =>
    rw [hw] at hs
    simp only [cond_true] at hs
    simp only [if_true]
    refine ⟨fun f _ => hF.fn f, ?_⟩
    have hdef : ∀ c, o.op ≠ .defer c := by
      intro c e
      have : opW P h t H o = none := by unfold opW opV; rw [e]; simp only [unOps]
      rw [this] at hs; cases hs
    rw [Oper.semAt_eq _ _ _ hdef]
    cases hop : opW P h t H o with
    | none => rw [hop] at hs; cases hs
    | some nx =>
      rw [hop] at hs
      have hnx := opW_sound ho r ht hop
      cases nx with
      | val v H1 =>
        simp only at hs
        obtain ⟨φ', v', w', q1, q2, q3, q4⟩ := hnx
        rw [q2, Oper.uponIn_value]
        cases hp : putV N t o.dst v with
        | none => rw [hp] at hs; cases hs
        | some t2 =>
          rw [hp] at hs
          simp only [Option.some.injEq, Prod.mk.injEq] at hs
          obtain ⟨rfl, rfl⟩ := hs
          exact hK φ' _ w' q1 q4 (putV_sound hp (ht.mono q1) q3) (put_defers _ _ _)
      | skip H1 =>
        simp only at hs
        obtain ⟨φ', w', q1, q2, q4⟩ := hnx
        rw [q2, Oper.uponIn_skip]
        cases hp : putV N t o.dst undef with
        | none => rw [hp] at hs; cases hs
        | some t2 =>
          rw [hp] at hs
          simp only [Option.some.injEq, Prod.mk.injEq] at hs
          obtain ⟨rfl, rfl⟩ := hs
          exact hK φ' _ w' q1 q4 (putV_sound hp (ht.mono q1) (VRel.undef φ')) (put_defers _ _ _)
      | enter f args H1 =>
        simp only at hs
        obtain ⟨args', q1, q2, q3⟩ := hnx
        cases hc : h.call f args H1 with
        | none => rw [hc] at hs; cases hs
        | some vh =>
          obtain ⟨v, H2⟩ := vh
          rw [hc] at hs
          simp only at hs
          cases hp : putV N t o.dst v with
          | none => rw [hp] at hs; cases hs
          | some t2 =>
            rw [hp] at hs
            simp only [Option.some.injEq, Prod.mk.injEq] at hs
            obtain ⟨rfl, rfl⟩ := hs
            have := ho.call hc q3 q1 (n - 1) (fun | .returned v, w'' => K (a.put o.dst v) w'' | .panicked chain, w'' => Q (.panic chain) a w'' | .outgrown, _ => LetsOut Q)
              (fun φ' v' w' hle hv hr => hK φ' _ w' hle hr (putV_sound hp (ht.mono hle) hv) (put_defers _ _ _))
            rw [q2]
            rcases this with ⟨as', p1, p2⟩ | ⟨v', w', p1, p2⟩
            · rw [p1, Oper.uponIn_enter]
              exact ⟨hF.depth, hF.calls p2⟩
            · rw [p1, Oper.uponIn_value]
              exact p2
      | yield l args H1 =>
        simp only at hs
        obtain ⟨pl, args', q0, q1, q2, q3⟩ := hnx
        cases hc : h.yield l args H1 with
        | none => rw [hc] at hs; cases hs
        | some vh =>
          obtain ⟨v, H2⟩ := vh
          rw [hc] at hs
          simp only at hs
          cases hp : putV N t o.dst v with
          | none => rw [hp] at hs; cases hs
          | some t2 =>
            rw [hp] at hs
            simp only [Option.some.injEq, Prod.mk.injEq] at hs
            obtain ⟨rfl, rfl⟩ := hs
            obtain ⟨fn, tmps, as, bd, p1, p2⟩ := ho.yield hc q3 q1 q0 (n - 1) (fun | .returned v, w'' => K (a.put o.dst v) w'' | .panicked chain, w'' => Q (.panic chain) a w'' | .outgrown, _ => LetsOut Q)
              (fun φ' v' w' hle hv hr => hK φ' _ w' hle hr (putV_sound hp (ht.mono hle) hv) (put_defers _ _ _))
            rw [q2, p1, Oper.uponIn_round]
            exact ⟨hF.depth, hF.rounds p2⟩

theorem runOps_sound {h : Hands} (ho : HandsOK P h) {F : Fence} (hF : Wide F) {n N : Nat} {ops : Array Oper} {Q : Exit → Act → World → Prop} :
    ∀ (l : List Oper) (k : Nat) {φ : Emb} {t t' : Tr Value} {H H' : Heap} {a : Act} {w : World}, (∀ j, l[j]? = ops[k + j]?) → runOps P h N ops l t H = some (t', H') → Rel P w0 base φ H w → TRel φ N t a.tmps →
    (∀ φ' a' w', φ.le φ' → Rel P w0 base φ' H' w' → TRel φ' N t' a'.tmps → a'.defers = a.defers → Q .normal a' w') → wpOpsIn F n P ops Q (List.range' k l.length) a w
  | [], k, φ, t, t', H, H', a, w, _, hr, r, ht, hQ => by
    simp [runOps] at hr
    obtain ⟨rfl, rfl⟩ := hr
    simp only [List.length_nil, List.range'_zero, wpOpsIn]
    exact hQ φ a w (.refl φ) r ht rfl
  | o :: l, k, φ, t, t', H, H', a, w, hl, hr, r, ht, hQ => by
    simp only [runOps] at hr
    cases hs : stepV P h N ops o t H with
    | none => rw [hs] at hr; cases hr
    | some q =>
      obtain ⟨t1, H1⟩ := q
      rw [hs] at hr
      simp only at hr
      simp only [List.length_cons, List.range'_succ]
      rw [wpOpsIn_cons]
      have h0 : ops[k]? = some o := by simpa using (hl 0).symm
      refine stepV_sound ho hF hs r ht h0 fun φ1 a1 w1 hle r1 ht1 hd1 => ?_
      refine runOps_sound ho hF l (k + 1) (fun j => by have := hl (j + 1); simpa [Nat.add_assoc, Nat.add_comm 1] using this) hr r1 ht1 fun φ2 a2 w2 hle2 r2 ht2 hd2 => hQ φ2 a2 w2 (hle.trans hle2) r2 ht2 (hd2.trans hd1)

end
end Go.Eng
