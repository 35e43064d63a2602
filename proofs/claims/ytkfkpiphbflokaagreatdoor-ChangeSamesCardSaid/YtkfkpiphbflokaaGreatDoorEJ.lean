/- The engine, part 20: functions of the library without a Go body; all hands; a closed call. -/
import Derived.Test.YtkfkpiphbflokaaGreatDoorEI
import Derived.Lib.MakeNoZero
namespace Go.Eng
open Go.RowKit (Below)
set_option linter.unusedSectionVars false
variable [Sig]

inductive PrimOK (P : Program) (f : FuncId) : Ext → Prop
  | row {e : Array Value → Sem Value} (fn : Func) (h1 : P.funcs[f]? = some fn) (h2 : (fn.name == "runtime.NumGoroutine") = false) (h3 : fn.body.isNone = true) (h4 : Extern.findNext fn = none) (h5 : Extern.find fn = some e) : PrimOK P f (.row e)
  | same (fn : Func) (h1 : P.funcs[f]? = some fn) (h2 : (fn.name == "runtime.NumGoroutine") = false) (h3 : fn.body.isNone = true) (h4 : Extern.findNext fn = none) (h5 : Extern.find fn = some Extern.AbiNoEscape.same) : PrimOK P f .same
  | makeNoZero {el t : TypeId} {ps : Array TypeId} (fn : Func) (h1 : P.funcs[f]? = some fn) (h2 : (fn.name == "runtime.NumGoroutine") = false) (h3 : fn.body.isNone = true) (h4 : Extern.findNext fn = none)
      (h5 : Extern.find fn = some (Extern.BytealgMakeNoZero.makeNoZero ps #[t])) (h6 : P.underlying t = some (.slice el)) : PrimOK P f (.makeNoZero el)
  | hook {g : List Value → Option Value} (fn : Func) (h1 : P.funcs[f]? = some fn) (h2 : (fn.name == "runtime.NumGoroutine") = false) (h3 : fn.body.isNone = false)
      (h : ∀ {args : List Value} {v : Value}, g args = some v → ∀ {φ : Emb} {args' : List Value}, VRels φ args args' → ∀ w, Below Sig.lim Sig.old w → Calls P f args'.toArray w (fun e w' => ∃ v', VRel φ v v' ∧ e = .returned v' ∧ Below w.heap.size w w')) : PrimOK P f (.hook g)

  | hookH {g : List Value → Heap → Option (Value × Heap)} (fn : Func) (h1 : P.funcs[f]? = some fn) (h2 : (fn.name == "runtime.NumGoroutine") = false) (h3 : fn.body.isNone = false)
      (h : ∀ {args : List Value} {H H' : Heap} {v : Value}, g args H = some (v, H') → ∀ {w0 : Cx} {base : Nat} {φ : Emb} {w : World} {args' : List Value}, Rel P w0 base φ H w → VRels φ args args' →
        Calls P f args'.toArray w (fun e w' => ∃ φ' v', φ.le φ' ∧ VRel φ' v v' ∧ e = .returned v' ∧ Rel P w0 base φ' H' w')) : PrimOK P f (.hookH g)

def PrimsOK (P : Program) (l : List (FuncId × Ext)) : Prop := ∀ f k, (f, k) ∈ l → PrimOK P f k

section
variable {P : Program} {w0 : Cx} {base : Nat} {φ : Emb} {H : Heap} {w : World}

theorem run_callExtern {f : FuncId} {fn : Func} {e : Array Value → Sem Value} {args : Array Value} (h1 : P.funcs[f]? = some fn) (h2 : (fn.name == "runtime.NumGoroutine") = false) (h3 : fn.body.isNone = true) (h4 : Extern.findNext fn = none)
    (h5 : Extern.find fn = some e) {v : Value} {w' : World} (hr : (e args).run P w = .ok v w') : (callFunc f args).run P w = .ok (.value v) w' := by
  have hp : (program).run P w = .ok P w := rfl
  unfold callFunc
  simp only [Sem.run_bind, hp, Result.andThen_ok, h1]
  rw [h2]
  simp only [Bool.false_eq_true, if_false, h3, if_true]
  have hm : (mark (.extern f)).run P w = .ok () w := rfl
  simp only [Sem.run_bind, hm, Result.andThen_ok, h4, h5, hr, Sem.run_pure]

theorem digits_one : ∀ (n t : Nat) (acc : Array Value), (∀ v ∈ acc.toList, v.oneCell' = true) → ∀ v ∈ (Extern.BytealgMakeNoZero.digits n t acc).toList, v.oneCell' = true
  | 0, _, _, h => h
  | n + 1, t, acc, h => by
    rw [Extern.BytealgMakeNoZero.digits]
    refine digits_one n _ _ fun v hv => ?_
    simp only [Array.toList_push, List.mem_append, List.mem_singleton] at hv
    rcases hv with hv | rfl
    · exact h v hv
    · rfl

theorem repAny_length : ∀ n, (repAny n).length = n
  | 0 => rfl
  | n + 1 => by simp [repAny, repAny_length n]
theorem repAny_rel (φ : Emb) : ∀ (n : Nat) {l : List Value}, n = l.length → (∀ v ∈ l, v.oneCell' = true) → VRels φ (repAny n) l
  | 0, [], _, _ => .nil
  | 0, _ :: _, h, _ => by simp at h
  | n + 1, [], h, _ => by simp at h
  | n + 1, v :: l, h, hv => .cons (.any (hv v (by simp))) (repAny_rel φ n (by simpa using h) fun u hu => hv u (by simp [hu]))

theorem makeNoZero_sound (r : Rel P w0 base φ H w) {t el : TypeId} {ps : Array TypeId} (ht : P.underlying t = some (.slice el)) {k : Nat} (hk : k < 1048576) :
    ∃ φ' v' w', φ.le φ' ∧ (Extern.BytealgMakeNoZero.makeNoZero ps #[t] #[.int .i64 (Int.ofNat k)]).run P w = .ok v' w' ∧ VRel φ' (.slice (some ⟨H.next, 0, none⟩) k k) v' ∧ Rel P w0 base φ' (newCells H (repAny k) el 1 true) w' := by
  have hdef : Extern.BytealgMakeNoZero.makeNoZero ps #[t] #[.int .i64 (Int.ofNat k)] =
      (do
        let .slice elem ← underlying t | stuck "bytealg.MakeNoZero: slice type expected"
        if (Int.ofNat k) < 0 || (Int.ofNat k) > 2 ^ 48 then runtimePanic (.error "makeslice: len out of range")
        let cap ← choose (.appendCap (Int.ofNat k).toNat 0 elem)
        askRoom cap
        let bytes ← choose (.extern "internal/bytealg.MakeNoZero.bytes" 0)
        let a ← newRow elem (Extern.BytealgMakeNoZero.digits cap bytes #[])
        pure (.slice (some a) (Int.ofNat k).toNat cap)) := rfl
  generalize hx : w.tape w.drawn (.appendCap k 0 el) % (2 ^ 63 - k) = x
  have hcap : (Question.appendCap k 0 el).cut (w.tape w.drawn (.appendCap k 0 el)) = k + x := by rw [← hx]; rfl
  generalize hy : (Question.extern "internal/bytealg.MakeNoZero.bytes" 0).cut (w.tape (w.drawn + 1) (.extern "internal/bytealg.MakeNoZero.bytes" 0)) = y
  have hf1 : (Question.appendCap k 0 el).forced = false := rfl
  have hf2 : (Question.extern "internal/bytealg.MakeNoZero.bytes" 0).forced = false := by simp [Question.forced]
  have hroom : ∀ (n : Nat) (w1 : World), (askRoom n).run P w1 = .ok () w1 := by
    intro n w1
    unfold askRoom
    split <;> rfl
  let cs : Array Value := Extern.BytealgMakeNoZero.digits (k + x) y #[]
  have hcs : cs.size = k + x := by simp [cs, Lib.size_digits]
  have hone : ∀ v ∈ cs.toList, v.oneCell' = true := digits_one _ _ _ (by simp)
  have hrun : (Extern.BytealgMakeNoZero.makeNoZero ps #[t] #[.int .i64 (Int.ofNat k)]).run P w = .ok (.slice (some ⟨w.heap.size, 0, none⟩) k (k + x)) (w.drew.drew.alloc (.cells cs el)) := by
    rw [hdef]
    have h1 : ¬ (k : Int) < 0 := by omega
    have h2 : ¬ (281474976710656 : Int) < (k : Int) := by omega
    simp [run_under ht, h1, h2, hf1, hf2, hcap, hy, hroom, run_newRow, cs]
  have hv : VRels φ (repAny k) (cs.toList.take k) := repAny_rel φ k (by simp; omega) fun v hv => hone v (List.mem_of_mem_take hv)
  have hr := newCells_sound r.drew.drew (cs' := cs.toList.take k) hv el 1 true (cs.toList.drop k) x (by simp; omega) (by simp)
  rw [List.take_append_drop] at hr
  refine ⟨_, _, _, le_new r _, hrun, ?_, by simpa using hr⟩
  refine .slice (a' := ⟨w.heap.size, 0, none⟩) (Emb.add_same φ H.next _) (Nat.le_refl _) ?_ (.inr rfl)
  simp [repAny_length]

theorem flats_eq {args args' : List Value} (ha : VRels φ args args') (hfl : args.all flat = true) : args' = args := by
  induction args generalizing args' with
  | nil => cases ha; rfl
  | cons x xs ih =>
    cases ha with
    | cons hv ht =>
      simp only [List.all_cons, Bool.and_eq_true] at hfl
      rw [flat_eq hv hfl.1, ih ht hfl.2]

theorem extV_sound {f : FuncId} {k : Ext} (hk : PrimOK P f k) (hnk : ∀ g, k ≠ .hook g) (hnh : ∀ g, k ≠ .hookH g) {args : List Value} {v : Value} {H' : Heap} (h : extV P k args H = some (v, H')) (r : Rel P w0 base φ H w) {args' : List Value} (ha : VRels φ args args') :
    ∃ φ' v' w', φ.le φ' ∧ (callFunc f args'.toArray).run P w = .ok (.value v') w' ∧ VRel φ' v v' ∧ Rel P w0 base φ' H' w' := by
  cases hk with
  | row fn h1 h2 h3 h4 h5 =>
    rename_i e
    simp only [extV] at h
    have hfl : args.all flat = true := by
      cases hb : args.all flat with
      | true => rfl
      | false => rw [hb] at h; cases h
    have h := cond_some h
    cases hp : pureVal P (e args.toArray) with
    | none => rw [hp] at h; cases h
    | some u =>
      rw [hp] at h
      simp only at h
      cases hfu : flat u with
      | false => rw [hfu] at h; cases h
      | true =>
        rw [hfu] at h
        simp only [cond_true, Option.some.injEq, Prod.mk.injEq] at h
        obtain ⟨rfl, rfl⟩ := h
        have hargs : args' = args := flats_eq ha hfl
        subst hargs
        exact ⟨φ, u, w, .refl φ, run_callExtern h1 h2 h3 h4 h5 (pureVal_run P _ hp w), .refl φ hfu, r⟩
  | same fn h1 h2 h3 h4 h5 =>
    match args, args', ha, h with
    | [x], [y], .cons hv .nil, h =>
      simp only [extV, Option.some.injEq, Prod.mk.injEq] at h
      obtain ⟨rfl, rfl⟩ := h
      exact ⟨φ, y, w, .refl φ, run_callExtern h1 h2 h3 h4 h5 rfl, hv, r⟩
    | [], _, _, h => cases h
    | _ :: _ :: _, _, _, h => cases h
  | hook fn h1 h2 h3 hh => exact absurd rfl (hnk _)
  | hookH fn h1 h2 h3 hh => exact absurd rfl (hnh _)
  | makeNoZero fn h1 h2 h3 h4 h5 h6 =>
    match args, args', ha, h with
    | [.int .i64 (.ofNat n)], [_], .cons (.int _ _) .nil, h =>
      simp only [extV] at h
      cases hb : Nat.blt n 1048576 with
      | false => rw [hb] at h; cases h
      | true =>
        rw [hb] at h
        simp only [cond_true, Option.some.injEq, Prod.mk.injEq] at h
        obtain ⟨rfl, rfl⟩ := h
        obtain ⟨φ', v', w', q1, q2, q3, q4⟩ := makeNoZero_sound r (ps := _) h6 (k := n) (by simpa [Nat.blt_eq] using hb)
        exact ⟨φ', v', w', q1, run_callExtern h1 h2 h3 h4 h5 q2, q3, q4⟩

theorem Rel.grow (r : Rel P w0 base φ H w) {w' : World} (h : Below w.heap.size w w') : Rel P w0 base φ H w' := by
  have hb : Below base w w' := h.mono r.low
  refine ⟨r.below.trans hb, fun k hk => (h.block k (r.gl k hk)).trans (r.keep k hk), fun k hk => Nat.lt_of_lt_of_le (r.gl k hk) h.size, r.ng, Nat.le_trans r.low h.size, r.top, r.dead, r.glob, fun b pl hb' => (r.blk b pl hb').world fun hl => h.block _ (r.live_size hb' hl), r.inj, r.res, r.unp, r.hold⟩

theorem run_callEnter {f : FuncId} {fn : Func} {args : Array Value} (h1 : P.funcs[f]? = some fn) (h2 : (fn.name == "runtime.NumGoroutine") = false) (h3 : fn.body.isNone = false) : (callFunc f args).run P w = .ok (.enter f args) w := by
  have hp : (program).run P w = .ok P w := rfl
  unfold callFunc
  simp only [Sem.run_bind, hp, Result.andThen_ok, h1]
  rw [h2]
  simp only [Bool.false_eq_true, if_false, h3, Sem.run_pure]

/-- A function of which it is known what it answers. -/
theorem hook_sound {f : FuncId} {g : List Value → Option Value} (hk : PrimOK P f (.hook g)) {args : List Value} {v : Value} {H' : Heap} (h : extV P (.hook g) args H = some (v, H')) (r : Rel P w0 base φ H w) {args' : List Value} (ha : VRels φ args args')
    (n : Nat) (R : Ending → World → Prop) (hR : ∀ φ' v' w', φ.le φ' → VRel φ' v v' → Rel P w0 base φ' H' w' → R (.returned v') w') :
    (callFunc f args'.toArray).run P w = .ok (.enter f args'.toArray) w ∧ CallsIn Fence.wide n P f args'.toArray w R := by
  cases hk with
  | hook fn h1 h2 h3 hh =>
    simp only [extV] at h
    cases hg : g args with
    | none => rw [hg] at h; cases h
    | some u =>
      rw [hg] at h
      simp only [Option.some.injEq, Prod.mk.injEq] at h
      obtain ⟨rfl, rfl⟩ := h
      refine ⟨run_callEnter h1 h2 h3, CallsIn.mono (callsIn_wide.2 (hh hg ha w r.told)) fun e w' hq => ?_⟩
      obtain ⟨v', q1, rfl, hb⟩ := hq
      exact hR φ v' w' (.refl φ) q1 (r.grow hb)

theorem hookH_sound {f : FuncId} {g : List Value → Heap → Option (Value × Heap)} (hk : PrimOK P f (.hookH g)) {args : List Value} {v : Value} {H' : Heap} (h : extV P (.hookH g) args H = some (v, H')) (r : Rel P w0 base φ H w) {args' : List Value} (ha : VRels φ args args')
    (n : Nat) (R : Ending → World → Prop) (hR : ∀ φ' v' w', φ.le φ' → VRel φ' v v' → Rel P w0 base φ' H' w' → R (.returned v') w') :
    (callFunc f args'.toArray).run P w = .ok (.enter f args'.toArray) w ∧ CallsIn Fence.wide n P f args'.toArray w R := by
  cases hk with
  | hookH fn h1 h2 h3 hh =>
    refine ⟨run_callEnter h1 h2 h3, CallsIn.mono (callsIn_wide.2 (hh h r ha)) fun e w' hq => ?_⟩
    obtain ⟨φ', v', q0, q1, rfl, q2⟩ := hq
    exact hR φ' v' w' q0 q1 q2

/-- A row that a call made, told by a number. -/
theorem Rel.newOpq (r : Rel P w0 base φ H w) {w' : World} (hb : Below w.heap.size w w') {k : Nat} {pl : Pl} (hlo : w.heap.size ≤ pl.blk) (hx : BRel (φ.add H.next pl) base w' pl (.opq k)) : Rel P w0 base (φ.add H.next pl) (H.new (.opq k)) w' := by
  have r' := r.grow hb
  have hle := Emb.le_add pl r'.fresh
  refine ⟨r'.below, r'.keep, r'.gl, ?_, r'.low, ?_, ?_, ?_, ?_, ?_,
    fun b hb => by have := r'.res b hb; rw [Heap.next_new, Heap.get_new, if_neg (by omega)]; exact ⟨by omega, this.2⟩,
    fun b hb => by have := r'.unp b hb; rw [Heap.next_new]; exact ⟨by omega, by unfold Emb.add; rw [if_neg (by omega)]; exact this.2⟩, r'.hold⟩
  · intro b q hq hl hG
    rw [Heap.get_new] at hl
    by_cases e : b = H.next
    · subst e; rw [Emb.add_same] at hq; cases hq; have := r.gl _ hG; omega
    · have hq' : φ b = some q := by unfold Emb.add at hq; rwa [if_neg e] at hq
      rw [if_neg e] at hl
      exact r'.ng b q hq' hl hG
  · intro b hb'
    rw [Heap.next_new] at hb'
    unfold Emb.add
    rw [if_neg (by omega)]
    exact r'.top b (by omega)
  · intro b hb'
    rw [Heap.next_new] at hb'
    rw [Heap.get_new, if_neg (by omega)]
    exact r'.dead b (by omega)
  · intro g hg
    obtain ⟨q, h1, h2⟩ := r'.glob g hg
    exact ⟨q, hle _ _ h1, h2⟩
  · intro b q hq
    rw [Heap.get_new]
    by_cases e : b = H.next
    · subst e; rw [Emb.add_same] at hq; cases hq; rw [if_pos rfl]; exact hx
    · have hq' : φ b = some q := by unfold Emb.add at hq; rwa [if_neg e] at hq
      rw [if_neg e]
      exact (r'.blk b q hq').mono hle
  · intro b b' q q' hne hq hq' ho hl
    rw [Heap.get_new] at ho hl
    by_cases e : b = H.next
    · subst e; rw [if_pos rfl] at ho; cases ho
    · rw [if_neg e] at ho
      have hq1 : φ b = some q := by unfold Emb.add at hq; rwa [if_neg e] at hq
      by_cases e' : b' = H.next
      · subst e'
        rw [Emb.add_same] at hq'; cases hq'
        have := r.live_size hq1 (Blk.live_of_own ho)
        omega
      · rw [if_neg e'] at hl
        have hq2 : φ b' = some q' := by unfold Emb.add at hq'; rwa [if_neg e'] at hq'
        exact r'.inj b b' q q' hne hq1 hq2 ho hl

theorem prims_mem : ∀ {l : List (FuncId × Ext)} {f : FuncId} {p : List Value → Heap → Option (Value × Heap)}, prims P l f = some p → ∃ k, (f, k) ∈ l ∧ p = extV P k
  | [], _, _, h => by simp [prims] at h
  | (g, k) :: l, f, p, h => by
    simp only [prims] at h
    cases hb : Nat.beq g f with
    | true =>
      rw [hb] at h
      simp at h
      have := Nat.eq_of_beq_eq_true hb
      subst this
      exact ⟨k, by simp, h.symm⟩
    | false =>
      rw [hb] at h
      obtain ⟨k', h1, h2⟩ := prims_mem (l := l) h
      exact ⟨k', by simp [h1], h2⟩

end

/-- The word on what is not known is right. -/
def BinOK (P : Program) (bn : BinOp → TypeId → Value → Value → Option Value) : Prop := ∀ {op : BinOp} {xt : TypeId} {a b v : Value}, bn op xt a b = some v → ∀ {φ : Emb} {a' b' : Value}, VRel φ a a' → VRel φ b b' → ∀ (x y : Operand) (w : World),
    ∃ v', (do eqGuard op xt x y a' b'; binOp op xt a' b').run P w = .ok v' w ∧ VRel φ v v'

def UnOK (P : Program) (un : Op → List Value → Option Value) : Prop := ∀ {op : Op} {xs : List Operand} {vs : List Value} {v : Value}, unOps op = some xs → un op vs = some v → ∀ {φ : Emb} {vs' : List Value}, VRels φ vs vs' → ∀ (e : Operand → Value), xs.map e = vs' → ∀ (o : Oper), o.op = op → ∀ (w : World), Below Sig.lim Sig.old w →
    ∃ v', (execOp e o).run P w = .ok (.value v') w ∧ VRel φ v v'

def noBin : BinOp → TypeId → Value → Value → Option Value := fun _ _ _ _ => none
theorem noBin_ok {P : Program} : BinOK P noBin := fun h => by cases h
def noUn : Op → List Value → Option Value := fun _ _ => none
theorem noUn_ok {P : Program} : UnOK P noUn := fun _ h => by cases h

/-- All hands are sound. -/
theorem hands_ok {P : Program} {l : List (FuncId × Ext)} (hl : PrimsOK P l) {bn : BinOp → TypeId → Value → Value → Option Value} (hbn : BinOK P bn) {un : Op → List Value → Option Value} (hun : UnOK P un) (hmix : P.follows .mixedOrders = true) : ∀ n, HandsOK P (hands P (prims P l) bn un n)
  | 0 => ⟨fun h => by simp [hands] at h, fun h => by simp [hands] at h, fun h => hbn h, fun h1 h2 => hun h1 h2⟩
  | n + 1 => by
    have ih := hands_ok hl hbn hun hmix n
    have hdr := drawV_sound ih hmix
    refine ⟨?_, ?_, fun h => hbn h, fun h1 h2 => hun h1 h2⟩
    · intro f args H v H' h w0 base φ w args' r ha m R hR
      simp only [hands] at h
      cases hp : prims P l f with
      | some p =>
        rw [hp] at h
        simp only at h
        obtain ⟨k, h1, rfl⟩ := prims_mem hp
        by_cases hh : ∃ g, k = .hook g
        · obtain ⟨g, rfl⟩ := hh
          obtain ⟨q1, q2⟩ := hook_sound (hl f _ h1) h r ha m R hR
          exact .inl ⟨_, q1, q2⟩
        · by_cases hh2 : ∃ g, k = .hookH g
          · obtain ⟨g, rfl⟩ := hh2
            obtain ⟨q1, q2⟩ := hookH_sound (hl f _ h1) h r ha m R hR
            exact .inl ⟨_, q1, q2⟩
          · obtain ⟨φ', v', w', q1, q2, q3, q4⟩ := extV_sound (hl f k h1) (fun g e => hh ⟨g, e⟩) (fun g e => hh2 ⟨g, e⟩) h r ha
            exact .inr ⟨v', w', q2, hR φ' v' w' q1 q3 q4⟩
      | none =>
        rw [hp] at h
        simp only at h
        cases hf : P.funcs[f]? with
        | none => rw [hf] at h; cases h
        | some fn =>
          rw [hf] at h
          simp only at h
          obtain ⟨q1, q2⟩ := funcV_sound ih hdr hf h r ha m R hR
          exact .inl ⟨_, q1, q2⟩
    · intro i args H v H' h w0 base φ w args' pl r ha hp m R hR
      simp only [hands] at h
      exact yieldV_sound ih hdr h r ha hp m R hR

/-- The heap at the start: nothing is known but where the package variables lie. -/
def start (P : Program) : Heap := ⟨.nil, P.globals.size⟩

theorem start_get (P : Program) (b : Nat) : (start P).get b = .dead := by
  simp [start, Heap.get, Tr.get]

theorem start_rel (P : Program) (w : World) (hw : Below Sig.lim Sig.old w) (hl : Sig.lim ≤ w.heap.size) : Rel P ⟨w, fun _ => False, fun _ => False, fun _ => False⟩ w.heap.size (fun b => if b < P.globals.size then some ⟨b, 0, 0, 0, 0⟩ else none) (start P) w :=
  { below := .refl _ w, keep := fun _ h => h.elim, gl := fun _ h => h.elim, ng := fun _ _ _ _ h => h, low := Nat.le_refl _,
    top := fun b hb => by rw [if_neg (by have : (start P).next = P.globals.size := rfl; omega)], dead := fun b _ => start_get P b,
    glob := fun g hg => ⟨_, by rw [if_pos hg], rfl, rfl⟩, blk := fun b pl _ => by rw [start_get]; trivial,
    inj := fun b b' pl pl' _ _ _ ho => (by rw [start_get] at ho; cases ho), res := fun _ h => h.elim, unp := fun _ h => h.elim, hold := ⟨hw, hl⟩ }

/-- A call, of values that hold nothing of memory, that the interpreter carries out. -/
theorem closed_call {P : Program} {l : List (FuncId × Ext)} (hl : PrimsOK P l) {bn : BinOp → TypeId → Value → Value → Option Value} (hbn : BinOK P bn) {un : Op → List Value → Option Value} (hun : UnOK P un) (hmix : P.follows .mixedOrders = true) {n : Nat} {f : FuncId} {fn : Func} (hf : P.funcs[f]? = some fn) (hpr : prims P l f = none)
    {args args' : List Value} {v : Value} {H' : Heap} (h : (hands P (prims P l) bn un (n + 1)).call f args (start P) = some (v, H')) (hv : flat v = true) (w : World) (hw : Below Sig.lim Sig.old w) (hlim : Sig.lim ≤ w.heap.size)
    (ha : VRels (fun b => if b < P.globals.size then some ⟨b, 0, 0, 0, 0⟩ else none) args args') : Calls P f args'.toArray w (fun e w' => e = .returned v ∧ Below w.heap.size w w') := by
  simp only [hands, hpr, hf] at h
  have ih := hands_ok hl hbn hun hmix n
  have hdr := drawV_sound ih hmix
  obtain ⟨_, q⟩ := funcV_sound ih hdr hf h (start_rel P w hw hlim) ha 0 (fun e w' => e = .returned v ∧ Below w.heap.size w w') (fun φ' v' w' _ hvr r => ⟨by rw [flat_eq hvr hv], r.below⟩)
  exact callsIn_wide.1 q
end Go.Eng
