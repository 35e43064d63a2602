/- The engine, part 13: code, calls, rounds: the interpreter's word is the model's. -/
import Derived.Test.YtkfkpiphbflokaaGreatDoorEC
import Derived.LoopNIn
import Derived.Scope
import Derived.RangeFuncNested
namespace Go.Eng
open Go.RowKit (Below)
set_option linter.unusedSectionVars false
variable [Sig]

section
variable {P : Program} {w0 : Cx} {base : Nat} {φ : Emb} {H : Heap} {w : World}

inductive MRel (φ : Emb) : List Nat → List Deferred → Prop
  | nil : MRel φ [] []
  | cons {b : Nat} {pl : Pl} {m : List Nat} {ds : List Deferred} (h : φ b = some pl) (t : MRel φ m ds) : MRel φ (b :: m) ({ target := .collected pl.blk, args := #[] } :: ds)
theorem MRel.mono {φ φ' : Emb} (h : φ.le φ') {m : List Nat} {ds : List Deferred} (r : MRel φ m ds) : MRel φ' m ds := by
  induction r with
  | nil => exact .nil
  | cons hb _ ih => exact .cons (h _ _ hb) ih

def exitOf : Ex → Exit
  | .normal => .normal
  | .exit id => .exit id
  | .ret => .ret

/-- Which frame runs: a function's, or a loop's round. -/
inductive FRnd (φ : Emb) : Option Nat → Fence → Prop
  | out : FRnd φ none Fence.wide
  | inn {l : Nat} {pl : Pl} (h : φ l = some pl) : FRnd φ (some l) (Fence.wide.inRound pl.blk)
theorem FRnd.mono {φ φ' : Emb} (h : φ.le φ') {r : Option Nat} {F : Fence} (q : FRnd φ r F) : FRnd φ' r F := by
  cases q with
  | out => exact .out
  | inn hl => exact .inn (h _ _ hl)
theorem FRnd.wide {r : Option Nat} {F : Fence} (q : FRnd φ r F) : Wide F := by
  cases q with
  | out => exact .inl rfl
  | inn hl => exact .inr ⟨_, rfl⟩

/-- A region that draws its order is met. -/
def DrawOK (P : Program) (h : Hands) : Prop := ∀ ⦃N : Nat⦄ ⦃ops : Array Oper⦄ ⦃t t' : Tr Value⦄ ⦃H H' : Heap⦄, drawV P h N ops t H = some (t', H') →
  ∀ ⦃w0 : Cx⦄ ⦃base : Nat⦄ ⦃φ : Emb⦄ ⦃w : World⦄ ⦃a : Act⦄ ⦃F : Fence⦄ (_ : Wide F) ⦃n id : Nat⦄ ⦃Q : Exit → Act → World → Prop⦄, Rel P w0 base φ H w → TRel φ N t a.tmps →
    (∀ φ' a' w', φ.le φ' → Rel P w0 base φ' H' w' → TRel φ' N t' a'.tmps → a'.defers = a.defers → Q .normal a' w') → (Code.region id ops true).wpIn F n P Q a w

/-- What a piece of code comes to. -/
def CodeOK (P : Program) (h : Hands) (L : Nat) (c : Code) : Prop := ∀ ⦃rnd : Option Nat⦄ ⦃N : Nat⦄ ⦃t : Tr Value⦄ ⦃m : List Nat⦄ ⦃H : Heap⦄ ⦃out : Out⦄, codeV P h L rnd N c t m H = some out →
  ∀ ⦃w0 : Cx⦄ ⦃base : Nat⦄ ⦃φ : Emb⦄ ⦃w : World⦄ ⦃a : Act⦄ ⦃F : Fence⦄ ⦃n : Nat⦄ ⦃Q : Exit → Act → World → Prop⦄, Rel P w0 base φ H w → TRel φ N t a.tmps → MRel φ m a.defers → FRnd φ rnd F →
    (∀ φ' a' w', φ.le φ' → Rel P w0 base φ' out.H w' → TRel φ' N out.t a'.tmps → MRel φ' out.m a'.defers → Q (exitOf out.e) a' w') → c.wpIn F n P Q a w

theorem stepR_scope {b : Frame} {a : Act} {k : List Item} {cs : List Frame} {c : Code} : step P (lone (b.atR a (.code (.scope c) :: k)) cs w) = .next (lone (b.atR a (.code c :: .inScope c :: k)) cs w) :=
  step_lone_go (by simp [stepG, stepG.exec, Frame.atR])
theorem stepR_inScope {b : Frame} {a : Act} {k : List Item} {cs : List Frame} {c : Code} : step P (lone (b.atR a (.inScope c :: k)) cs w) = .next (lone (b.atR a k) cs w) :=
  step_lone_go (by simp [stepG, stepG.exec, Frame.atR])
/-- Where nothing jumps to a label a scope is its body. -/
theorem wpIn_scope_straight {F : Fence} {n : Nat} {Q : Exit → Act → World → Prop} {a : Act} {c : Code} (h : c.wpIn F n P (Exit.noGoto Q) a w) : (Code.scope c).wpIn F n P Q a w := by
  intro b k cs hro hb hr
  have h0 : (lone (b.atR a (.code (.scope c) :: k)) cs w).fenced P F := fenced_calm hb hr rfl
  obtain ⟨e, a₁, w₁, hq, harr⟩ := h b (.inScope c :: k) cs hro hb hr
  cases e with
  | normal => exact ⟨.normal, a₁, w₁, hq, .head h0 stepR_scope (StepsIn.trans harr (.one (fenced_calm hb hr rfl) stepR_inScope))⟩
  | exit id' =>
    have hx : exitTo id' (.inScope c :: k) = exitTo id' k := by simp [exitTo]
    exact ⟨.exit id', a₁, w₁, hq, fun k' hk => .head h0 stepR_scope (harr.1 k' (by rw [hx]; exact hk)),
      fun hr' hk => let ⟨k₁, h1, h2⟩ := harr.2 hr' (by rw [hx]; exact hk); ⟨k₁, h1, .head h0 stepR_scope h2⟩⟩
  | goto l => exact hq.elim
  | ret => exact ⟨_, a₁, w₁, hq, .of_steps (.one h0 stepR_scope) harr⟩
  | panic ch => exact ⟨_, a₁, w₁, hq, .of_steps (.one h0 stepR_scope) harr⟩
  | outgrown => exact ⟨_, a₁, w₁, hq, .of_steps (.one h0 stepR_scope) harr⟩

theorem loopV_sound {h : Hands} {L : Nat} {c : Code} (hc : CodeOK P h L c) {rnd : Option Nat} {N : Nat} : ∀ (k : Nat) {t : Tr Value} {m : List Nat} {H : Heap} {out : Out}, loopV (fun t m H => codeV P h L rnd N c t m H) k t m H = some out →
    ∀ ⦃w0 : Cx⦄ ⦃base : Nat⦄ ⦃φ : Emb⦄ ⦃w : World⦄ ⦃a : Act⦄ ⦃F : Fence⦄ ⦃n : Nat⦄ ⦃Q : Exit → Act → World → Prop⦄, Rel P w0 base φ H w → TRel φ N t a.tmps → MRel φ m a.defers → FRnd φ rnd F →
    (∀ φ' a' w', φ.le φ' → Rel P w0 base φ' out.H w' → TRel φ' N out.t a'.tmps → MRel φ' out.m a'.defers → Q (exitOf out.e) a' w') → out.e ≠ .normal ∧ Code.roundsIn F n P c Q k a w
  | 0, _, _, _, _, hl => by simp [loopV] at hl
  | k + 1, t, m, H, out, hl => by
    intro w0 base φ w a F n Q r ht hm hF hQ
    simp only [loopV] at hl
    rw [roundsIn_succ]
    cases hb : codeV P h L rnd N c t m H with
    | none => rw [hb] at hl; cases hl
    | some o1 =>
      rw [hb] at hl
      obtain ⟨e, t1, m1, H1⟩ := o1
      cases e with
      | normal =>
        simp only at hl
        -- the rest of the rounds
        by_cases hne : out.e = .normal
        · -- a loop does not end so
          exfalso
          have : ∀ (k : Nat) (t : Tr Value) (m : List Nat) (H : Heap) (out : Out), loopV (fun t m H => codeV P h L rnd N c t m H) k t m H = some out → out.e ≠ .normal := by
            intro k
            induction k with
            | zero => intro t m H out hh; simp [loopV] at hh
            | succ k ih =>
              intro t m H out hh
              simp only [loopV] at hh
              split at hh
              · exact ih _ _ _ _ hh
              · rename_i hnn
                intro he
                rw [hh] at hnn
                obtain ⟨e, t2, m2, H2⟩ := out
                simp only at he
                subst he
                exact hnn _ _ _ rfl
          exact this _ _ _ _ _ hl hne
        · refine ⟨hne, hc hb r ht hm hF fun φ' a' w' hle r' ht' hm' => ?_⟩
          show Exit.then _ _ Exit.normal a' w'
          exact (loopV_sound hc k hl r' ht' hm' (hF.mono hle) fun φ2 a2 w2 hle2 r2 ht2 hm2 => hQ φ2 a2 w2 (hle.trans hle2) r2 ht2 hm2).2
      | exit id =>
        simp only [Option.some.injEq] at hl
        subst hl
        exact ⟨by simp, hc hb r ht hm hF fun φ' a' w' hle r' ht' hm' => hQ φ' a' w' hle r' ht' hm'⟩
      | ret =>
        simp only [Option.some.injEq] at hl
        subst hl
        exact ⟨by simp, hc hb r ht hm hF fun φ' a' w' hle r' ht' hm' => hQ φ' a' w' hle r' ht' hm'⟩

theorem run_resolve_range {a : Act} {g : Operand} {gf : FuncId} {first captured : Array Value} (hg : a.eval g = .func (.func gf) first captured) (l : Nat) {d : Deferred} (hd : (resolve a.eval (rangeCall g l) 0).run P w = .ok d w) :
    (invoke d.target d.args).run P w = (callFunc gf (first.toList ++ (.func (.yield l) #[] #[] :: captured.toList)).toArray).run P w := by
  simp only [resolve, hg, Deferred.ofValue, Sem.run_pure, Result.ok.injEq, and_true] at hd
  subst hd
  simp only [invoke]
  congr 2
  rw [← Array.toList_inj]
  simp [Act.eval]

theorem pendingV_sound {pend : Option Code} {t : Tr Value} {m : List Nat} {out : Out} (hp : pendingV pend t m H = some out) {N : Nat} {a : Act} {F : Fence} {n : Nat} {Q : Exit → Act → World → Prop}
    (r : Rel P w0 base φ H w) (ht : TRel φ N t a.tmps) (hm : MRel φ m a.defers) (hQ : ∀ φ' a' w', φ.le φ' → Rel P w0 base φ' out.H w' → TRel φ' N out.t a'.tmps → MRel φ' out.m a'.defers → Q (exitOf out.e) a' w') :
    (match pend with
       | none => Q .normal a w
       | some c => c.wpIn F n P Q a w) := by
  unfold pendingV at hp
  split at hp
  · cases hp; exact hQ φ a w (.refl φ) r ht hm
  · cases hp; exact wpIn_exit (hQ φ a w (.refl φ) r ht hm)
  · cases hp; exact wpIn_ret (hQ φ a w (.refl φ) r ht hm)
  · cases hp

theorem callFunc_body {g : FuncId} (hb : hasBody P g = true) {args : Array Value} {v : Value} {w' : World} (h : (callFunc g args).run P w = .ok (.value v) w') : False := by
  unfold hasBody at hb
  cases hf : P.funcs[g]? with
  | none => rw [hf] at hb; cases hb
  | some fn =>
    rw [hf] at hb
    simp only at hb
    simp only [callFunc, Sem.run_bind, run_program, Result.andThen_ok, hf] at h
    have hn : fn.body.isNone = false := by cases hbd : fn.body <;> simp_all
    rw [hn] at h
    simp at h
    split at h <;> simp at h

theorem codeV_sound {h : Hands} (ho : HandsOK P h) (hdr : DrawOK P h) (L : Nat) : ∀ c : Code, CodeOK P h L c
  | .skip => by
    intro _ _ _ _ _ _ he _ _ _ _ _ _ _ _ r ht hm _ hQ
    simp only [codeV, Option.some.injEq] at he; subst he; exact wpIn_skip (hQ _ _ _ (.refl _) r ht hm)
  | .label _ => by
    intro _ _ _ _ _ _ he _ _ _ _ _ _ _ _ r ht hm _ hQ
    simp only [codeV, Option.some.injEq] at he; subst he; exact wpIn_label (hQ _ _ _ (.refl _) r ht hm)
  | .exit _ => by
    intro _ _ _ _ _ _ he _ _ _ _ _ _ _ _ r ht hm _ hQ
    simp only [codeV, Option.some.injEq] at he; subst he; exact wpIn_exit (hQ _ _ _ (.refl _) r ht hm)
  | .ret => by
    intro _ _ _ _ _ _ he _ _ _ _ _ _ _ _ r ht hm _ hQ
    simp only [codeV, Option.some.injEq] at he; subst he; exact wpIn_ret (hQ _ _ _ (.refl _) r ht hm)
  | .scope x => by
    intro rnd N t m H out he w0 base φ w a F n Q r ht hm hF hQ
    simp only [codeV] at he
    refine wpIn_scope_straight (codeV_sound ho hdr L x he r ht hm hF fun φ' a' w' hle r' ht' hm' => ?_)
    have hq := hQ φ' a' w' hle r' ht' hm'
    cases hout : out.e <;> rw [hout] at hq <;> exact hq
  | .goto _ => by intro _ _ _ _ _ _ he; simp [codeV] at he
  | .refuse _ => by intro _ _ _ _ _ _ he; simp [codeV] at he
  | .region id ops draw => by
    intro rnd N t m H out he w0 base φ w a F n Q r ht hm hF hQ
    simp only [codeV] at he
    cases draw with
    | true =>
      simp only [cond_true] at he
      cases hd : drawV P h N ops t H with
      | none => rw [hd] at he; cases he
      | some q =>
        obtain ⟨t', H'⟩ := q
        rw [hd] at he
        cases he
        exact hdr hd hF.wide r ht fun φ' a' w' hle r' ht' hd' => hQ φ' a' w' hle r' ht' (by rw [hd']; exact hm.mono hle)
    | false =>
      simp only [cond_false] at he
      cases hd : runOps P h N ops ops.toList t H with
      | none => rw [hd] at he; cases he
      | some q =>
        obtain ⟨t', H'⟩ := q
        rw [hd] at he
        cases he
        refine wpIn_region ?_
        have := runOps_sound ho hF.wide (n := n) (Q := Q) ops.toList 0 (fun j => by simp) hd r ht fun φ' a' w' hle r' ht' hd' => hQ φ' a' w' hle r' ht' (by rw [hd']; exact hm.mono hle)
        rwa [← List.range_eq_range', Array.length_toList] at this
  | .seq x y => by
    intro rnd N t m H out he w0 base φ w a F n Q r ht hm hF hQ
    simp only [codeV] at he
    refine wpIn_seq ?_
    cases hx : codeV P h L rnd N x t m H with
    | none => rw [hx] at he; cases he
    | some o1 =>
      rw [hx] at he
      obtain ⟨e, t1, m1, H1⟩ := o1
      cases e with
      | normal =>
        simp only at he
        refine codeV_sound ho hdr L x hx r ht hm hF fun φ' a' w' hle r' ht' hm' => ?_
        exact codeV_sound ho hdr L y he r' ht' hm' (hF.mono hle) fun φ2 a2 w2 hle2 r2 ht2 hm2 => hQ φ2 a2 w2 (hle.trans hle2) r2 ht2 hm2
      | exit id =>
        simp only [Option.some.injEq] at he; subst he
        exact codeV_sound ho hdr L x hx r ht hm hF fun φ' a' w' hle r' ht' hm' => hQ φ' a' w' hle r' ht' hm'
      | ret =>
        simp only [Option.some.injEq] at he; subst he
        exact codeV_sound ho hdr L x hx r ht hm hF fun φ' a' w' hle r' ht' hm' => hQ φ' a' w' hle r' ht' hm'
  | .cond c x y => by
    intro rnd N t m H out he w0 base φ w a F n Q r ht hm hF hQ
    simp only [codeV] at he
    split at he
    · rename_i hc
      exact wpIn_cond_true (ev_sound r ht hc).inv_bool (codeV_sound ho hdr L x he r ht hm hF hQ)
    · rename_i hc
      exact wpIn_cond_false (ev_sound r ht hc).inv_bool (codeV_sound ho hdr L y he r ht hm hF hQ)
    · cases he
  | .block id x => by
    intro rnd N t m H out he w0 base φ w a F n Q r ht hm hF hQ
    simp only [codeV] at he
    refine wpIn_block ?_
    cases hx : codeV P h L rnd N x t m H with
    | none => rw [hx] at he; cases he
    | some o1 =>
      rw [hx] at he
      obtain ⟨e, t1, m1, H1⟩ := o1
      cases e with
      | normal =>
        simp only [Option.some.injEq] at he; subst he
        exact codeV_sound ho hdr L x hx r ht hm hF fun φ' a' w' hle r' ht' hm' => hQ φ' a' w' hle r' ht' hm'
      | ret =>
        simp only [Option.some.injEq] at he; subst he
        exact codeV_sound ho hdr L x hx r ht hm hF fun φ' a' w' hle r' ht' hm' => hQ φ' a' w' hle r' ht' hm'
      | exit i =>
        simp only at he
        cases hb : Nat.beq i id with
        | true =>
          rw [hb] at he
          simp only [cond_true, Option.some.injEq] at he; subst he
          have e1 := Nat.eq_of_beq_eq_true hb
          refine codeV_sound ho hdr L x hx r ht hm hF fun φ' a' w' hle r' ht' hm' => ?_
          show Exit.inBlock id Q (.exit i) a' w'
          simp only [Exit.inBlock, e1, if_true]
          exact hQ φ' a' w' hle r' ht' hm'
        | false =>
          rw [hb] at he
          simp only [cond_false, Option.some.injEq] at he; subst he
          have e1 : i ≠ id := fun e => by rw [e] at hb; simp at hb
          refine codeV_sound ho hdr L x hx r ht hm hF fun φ' a' w' hle r' ht' hm' => ?_
          show Exit.inBlock id Q (.exit i) a' w'
          simp only [Exit.inBlock, e1, if_false]
          exact hQ φ' a' w' hle r' ht' hm'
  | .loop x => by
    intro rnd N t m H out he w0 base φ w a F n Q r ht hm hF hQ
    simp only [codeV] at he
    exact wpIn_loop_rounds L (loopV_sound (codeV_sound ho hdr L x) L he r ht hm hF hQ).2
  | .rangeFunc g ps assign body => by
    intro rnd N t m H out he w0 base φ w a F n Q r ht hm hF hQ
    simp only [codeV] at he
    split at he
    · rename_i gf first captured hg
      have hgr := ev_sound r ht hg
      obtain ⟨first', captured', hge, h1, h2⟩ : ∃ first' captured', a.eval g = .func (.func gf) first' captured' ∧ VRels φ first.toList first'.toList ∧ VRels φ captured.toList captured'.toList := by
        generalize a.eval g = u at hgr
        cases hgr with
        | func hF' q1 q2 => cases hF'; exact ⟨_, _, rfl, q1, q2⟩
      cases hbody : hasBody P gf with
      | false => rw [hbody] at he; cases he
      | true =>
      -- the record, and its mark
      have key : ∀ {H1 : Heap} {m1 : List Nat} {w1 : World} {φ1 : Emb} {a1 : Act} (fn : FuncId) (l : Nat) (mark : List Deferred) (w2 : World) (dfr : Nat), φ.le φ1 →
          Rel P w0 base φ1 H1 w1 → MRel φ1 m1 (mark ++ a.defers) → a1 = { a with defers := mark ++ a.defers } → l = w1.heap.size →
          w2 = w1.alloc (.loop { state := .ready, pending := none, fn, tmps := a.tmps, params := ps, assign, body, defers := dfr }) →
          (match h.call gf (first.toList ++ (.func (.yield H1.next) #[] #[] :: captured.toList)) (H1.new (.loop .ready none N t ps.toList assign body)) with
            | some (_, H3) =>
              (match H3.get H1.next with
              | .loop st pend N' tm ps' as bd => cond (notBusy st) (pendingV pend t m1 (H3.put H1.next (.loop .exhausted pend N' tm ps' as bd))) none
              | _ => none)
            | none => none) = some out →
          ∃ (d : Deferred) (w1' : World) (f : FuncId) (args : Array Value) (w3 : World), (resolve a.eval (rangeCall g l) 0).run P w2 = .ok d w1' ∧ (invoke d.target d.args).run P w1' = .ok (.enter f args) w3 ∧
            CallsIn F (n - 1) P f args w3 (rangePost F n P l Q a1) := by
        intro H1 m1 w1 φ1 a1 fn l mark w2 dfr hle r1 hm1 ha1 hl hw2 hcall
        subst hl hw2 ha1
        obtain ⟨φ2, q1, q2, q3, q4⟩ := newObj_sound (P := P) r1 (.loop .ready none N t ps.toList assign body) (.loop { state := .ready, pending := none, fn, tmps := a.tmps, params := ps, assign, body, defers := dfr })
          (fun φ' hle' hh => ⟨r1.low, _, hh, rfl, rfl, rfl, rfl, rfl, (ht.mono (hle.trans hle'))⟩)
        have hres : ∃ d, (resolve a.eval (rangeCall g w1.heap.size) 0).run P (w1.alloc (.loop { state := .ready, pending := none, fn, tmps := a.tmps, params := ps, assign, body, defers := dfr })) = .ok d (w1.alloc (.loop { state := .ready, pending := none, fn, tmps := a.tmps, params := ps, assign, body, defers := dfr })) := by
          simp only [resolve, hge, Deferred.ofValue]
          exact ⟨_, rfl⟩
        obtain ⟨d, hd⟩ := hres
        have hinv := run_resolve_range hge w1.heap.size hd
        cases hc : h.call gf (first.toList ++ (.func (.yield H1.next) #[] #[] :: captured.toList)) (H1.new (.loop .ready none N t ps.toList assign body)) with
        | none => rw [hc] at hcall; cases hcall
        | some vh =>
          obtain ⟨v, H3⟩ := vh
          rw [hc] at hcall
          simp only at hcall
          have hle2 := hle.trans q1
          have hargs : VRels φ2 (first.toList ++ (.func (.yield H1.next) #[] #[] :: captured.toList)) (first'.toList ++ (.func (.yield w1.heap.size) #[] #[] :: captured'.toList)) := by
            refine (h1.mono hle2).append (.cons ?_ (h2.mono hle2))
            have := VRel.func (φ := φ2) (FRel.yield q2) (f := #[]) (f' := #[]) (c := #[]) (c' := #[]) .nil .nil
            exact this
          have hok := ho.call hc q4 hargs (n - 1) (rangePost F n P w1.heap.size Q { a with defers := mark ++ a.defers }) (fun φ3 v' w3 hle3 hv r3 => by
            show ∃ jump w4, _
            split at hcall
            · rename_i st pend N' tm ps' as bd hg3
              have hb3 := r3.blk H1.next _ (hle3 _ _ q2)
              rw [hg3] at hb3
              obtain ⟨hbase, rec, e1, e2, e3, e4, e5, e6, e7⟩ := hb3
              subst e3
              cases hnb : notBusy st with
              | false => rw [hnb] at hcall; cases hcall
              | true =>
                rw [hnb] at hcall
                simp only [cond_true] at hcall
                have hstate : rec.state ≠ .busy := by rw [e2]; intro e; rw [e] at hnb; cases hnb
                refine ⟨rec.pending, _, run_endLoop e1 hstate, ?_⟩
                have hown : (H3.get H1.next).own = true := by rw [hg3]; rfl
                have r4 := r3.putObj (hle3 _ _ q2) hown (.loop .exhausted rec.pending N' tm ps' as bd) (.loop { rec with state := .exhausted }) (fun hh => ⟨hbase, _, hh, rfl, rfl, e4, e5, e6, e7⟩)
                exact pendingV_sound hcall r4 (ht.mono (hle2.trans hle3)) (hm1.mono (q1.trans hle3)) fun φ5 a5 w5 hle5 r5 ht5 hm5 => hQ φ5 a5 w5 ((hle2.trans hle3).trans hle5) r5 ht5 hm5
            · cases hcall)
          rcases hok with ⟨as', p1, p2⟩ | ⟨v', w', p1, p2⟩
          · exact ⟨d, _, gf, as', _, hd, by rw [hinv]; exact p1, hF.wide.calls p2⟩
          · exact (callFunc_body hbody p1).elim
      rw [hbody] at he
      simp only [cond_true] at he
      split at he
      · rename_i H1 m1 hpre
        refine wpIn_rangeFunc fun fn _ => ?_
        cases hF with
        | out =>
          simp only [Option.some.injEq, Prod.mk.injEq] at hpre
          obtain ⟨rfl, rfl⟩ := hpre
          obtain ⟨φ1, q1, q2, q3, q4⟩ := newObj_sound (P := P) r .marks (.deferred (some [])) (fun φ' _ hh => ⟨r.low, hh⟩)
          obtain ⟨d, w1', f, args, w3, c1, c2, c3⟩ := key (a1 := { a with defers := [{ target := .collected w.heap.size, args := #[] }] ++ a.defers }) fn (w.heap.size + 1) [{ target := .collected w.heap.size, args := #[] }] _ w.heap.size q1 q4 (.cons q2 (hm.mono q1)) rfl (by simp) rfl he
          exact ⟨w.heap.size + 1, _, _, d, w1', f, args, w3, run_enterLoop_outer fn a.tmps ps assign body, c1, fun f' _ => trivial, c2, fun hh => by simp [Fence.wide] at hh, c3⟩
        | inn hl =>
          rename_i l0 pl0
          simp only at hpre
          split at hpre
          · rename_i st pend N0 tm ps0 as0 bd0 hg0
            simp only [Option.some.injEq, Prod.mk.injEq] at hpre
            obtain ⟨rfl, rfl⟩ := hpre
            have hb0 := r.blk _ _ hl
            rw [hg0] at hb0
            obtain ⟨hbase, rec, e1, _⟩ := hb0
            obtain ⟨d, w1', f, args, w3, c1, c2, c3⟩ := key (a1 := { a with defers := [] ++ a.defers }) fn w.heap.size [] _ rec.defers (.refl φ) r hm rfl rfl rfl he
            exact ⟨w.heap.size, _, _, d, w1', f, args, w3, run_enterLoop_inner e1 fn a.tmps ps assign body, c1, fun f' _ => trivial, c2, fun hh => by simp [Fence.wide, Fence.inRound] at hh, c3⟩
          · cases hpre
      · cases he
    · cases he

end
end Go.Eng
