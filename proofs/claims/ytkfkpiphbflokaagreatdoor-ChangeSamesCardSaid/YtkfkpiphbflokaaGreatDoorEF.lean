/- The engine, part 16: for regions that draw: operations look at their operands alone; blocks that are hidden for a while; rows under numbers that were kept for them. -/
import Derived.Test.YtkfkpiphbflokaaGreatDoorEE
namespace Go.Eng
open Go.RowKit (Below)
set_option linter.unusedSectionVars false
variable [Sig]

section
variable {P : Program} {t1 t2 : Tr Value}

theorem ev_congr {x : Operand} (h : ∀ d, x = .tmp d → t1.get undef d = t2.get undef d) : ev P t1 x = ev P t2 x := by
  cases x <;> simp only [ev]
  rename_i d
  rw [h d rfl]
theorem evs_congr : ∀ {l : List Operand}, (∀ x ∈ l, ev P t1 x = ev P t2 x) → evs P t1 l = evs P t2 l
  | [], _ => rfl
  | x :: xs, h => by simp only [evs]; rw [h x (by simp), evs_congr fun y hy => h y (by simp [hy])]
theorem evOpt_congr {o : Option Operand} (h : ∀ x, o = some x → ev P t1 x = ev P t2 x) : evOpt P t1 o = evOpt P t2 o := by
  cases o with
  | none => rfl
  | some x => simp only [evOpt]; rw [h x rfl]
theorem evParts_congr : ∀ {l : List (Nat × Operand)}, (∀ x ∈ l.map (·.2), ev P t1 x = ev P t2 x) → evParts P t1 l = evParts P t2 l
  | [], _ => rfl
  | (i, x) :: xs, h => by simp only [evParts]; rw [h x (by simp), evParts_congr fun y hy => h y (by simp at hy ⊢; exact Or.inr hy)]
theorem callV_congr {c : Call} {ty : TypeId} {H : Heap} (h : ∀ x ∈ c.operands, ev P t1 x = ev P t2 x) : callV P t1 H c ty = callV P t2 H c ty := by
  unfold callV
  rw [evs_congr (t2 := t2) (fun x hx => h x (by simp [Call.operands]; exact Or.inr (by simpa using hx)))]
  cases evs P t2 c.args.toList with
  | none => rfl
  | some args =>
    simp only
    cases hc : c.callee with
    | builtin b => rfl
    | invoke r m => rfl
    | value f => simp only; rw [h f (by simp [Call.operands, hc])]
theorem opV_congr {o : Oper} {H : Heap} (h : ∀ x ∈ o.op.operands, ev P t1 x = ev P t2 x) : opV P t1 H o = opV P t2 H o := by
  obtain ⟨dst, op, type, pos, after, guard⟩ := o
  unfold opV
  cases op <;> simp only [Op.operands] at h ⊢
  case build ty ps => rw [evParts_congr (t2 := t2) (by simpa using h)]
  case buildSlice ty n ps => rw [evParts_congr (t2 := t2) (by simpa using h)]
  case makeFunc fn a b =>
    rw [evs_congr (t2 := t2) (l := a.toList) (fun x hx => h x (by simp; exact Or.inl (by simpa using hx))), evs_congr (t2 := t2) (l := b.toList) (fun x hx => h x (by simp; exact Or.inr (by simpa using hx)))]
  case slice ty x l hi m =>
    rw [h x (by simp), evOpt_congr (t2 := t2) (o := l) (fun y hy => h y (by simp [hy])), evOpt_congr (t2 := t2) (o := hi) (fun y hy => h y (by simp [hy])), evOpt_congr (t2 := t2) (o := m) (fun y hy => h y (by simp [hy]))]
  case call c => exact callV_congr h
  case makeMap ty o => cases o <;> rfl
  case next x b =>
    cases b
    · simp at h; simp only [h]
    · rfl
  all_goals first | rfl | (simp at h; simp only [h]; done) | (simp at h; obtain ⟨h1, h2⟩ := h; simp only [h1, h2]; done) | (simp at h; obtain ⟨h1, h2, h3⟩ := h; simp only [h1, h2, h3]; done)

theorem unOps_mem {op : Op} {xs : List Operand} (h : unOps op = some xs) {x : Operand} (hx : x ∈ xs) : x ∈ op.operands := by
  unfold unOps at h
  split at h
  · cases h; simpa [Op.operands] using hx
  · cases h; simpa [Op.operands] using hx
  · cases h; simpa [Op.operands] using hx
  · cases h; simpa [Op.operands] using hx
  · cases h; simpa [Op.operands] using hx
  · rename_i c
    split at h
    · rename_i hc
      cases h
      simp only [Op.operands, Call.operands, hc]
      simpa using hx
    · cases h
  · cases h
theorem opW_congr {h : Hands} {o : Oper} {H : Heap} (hx : ∀ x ∈ o.op.operands, ev P t1 x = ev P t2 x) : opW P h t1 H o = opW P h t2 H o := by
  unfold opW
  split
  · rename_i op xt x y yt hop
    rw [opV_congr hx, hx x (by rw [hop]; simp [Op.operands]), hx y (by rw [hop]; simp [Op.operands])]
  · cases hu : unOps o.op with
    | none => exact opV_congr hx
    | some xs => simp only [evs_congr (t2 := t2) (fun x hm => hx x (unOps_mem hu hm)), opV_congr hx]

theorem floatV_congr {op : Op} {id : Nat} (h : ∀ x ∈ op.operands, ev P t1 x = ev P t2 x) : floatV P t1 id op = floatV P t2 id op := by
  unfold floatV
  cases op <;> simp only [Op.operands] at h ⊢
  case box e x => rw [h x (by simp)]
  case buildSlice ty n ps => rw [evParts_congr (t2 := t2) (by simpa using h)]

def Agree (t1 t2 : Tr Value) (l : List Tmp) : Prop := ∀ d ∈ l, t1.get undef d = t2.get undef d

theorem Agree.ops {ops : Array Oper} {o : Oper} (h : Agree t1 t2 (o.looksAt ops)) : ∀ x ∈ o.op.operands, ev P t1 x = ev P t2 x := by
  intro x hx
  refine ev_congr fun d hd => h d ?_
  subst hd
  simp only [Oper.looksAt, List.mem_append, List.mem_filterMap]
  exact Or.inl ⟨.tmp d, by simpa using hx, rfl⟩
theorem Agree.guard {ops : Array Oper} {o : Oper} (h : Agree t1 t2 (o.looksAt ops)) {j : Nat} {b : Bool} (hg : o.guard = some (j, b)) {d : Tmp} (hd : (ops[j]?).bind (·.dst) = some d) : t1.get undef d = t2.get undef d := by
  refine h d ?_
  simp only [Oper.looksAt, List.mem_append, hg, hd]
  exact Or.inr (by simp)
theorem Agree.wanted {ops : Array Oper} {o : Oper} (h : Agree t1 t2 (o.looksAt ops)) : wantedV ops t1 o = wantedV ops t2 o := by
  unfold wantedV
  cases hg : o.guard with
  | none => rfl
  | some g =>
    obtain ⟨j, b⟩ := g
    simp only
    cases hd : (ops[j]?).bind (·.dst) with
    | none => rfl
    | some d => simp only; rw [h.guard hg hd]
theorem Agree.known {ops : Array Oper} {o : Oper} (h : Agree t1 t2 (o.looksAt ops)) : guardKnown ops t1 o = guardKnown ops t2 o := by
  unfold guardKnown
  cases hg : o.guard with
  | none => rfl
  | some g =>
    obtain ⟨j, b⟩ := g
    simp only
    cases hd : (ops[j]?).bind (·.dst) with
    | none => rfl
    | some d => simp only; rw [h.guard hg hd]

theorem putV_some {N : Nat} {t t' : Tr Value} {dst : Option Tmp} {v : Value} (h : putV N t dst v = some t') (t2 : Tr Value) (u : Value) : ∃ t2', putV N t2 dst u = some t2' ∧ ∀ d, t2'.get undef d = if dst = some d then u else t2.get undef d := by
  cases dst with
  | none => exact ⟨t2, rfl, by simp⟩
  | some e =>
    simp only [putV, Tr.strict_eq] at h ⊢
    cases hb : Nat.blt e N with
    | false => rw [hb] at h; cases h
    | true =>
      simp only [cond_true]
      refine ⟨_, rfl, fun d => ?_⟩
      rw [Tr.get_set]
      by_cases e1 : d = e
      · subst e1; simp
      · rw [if_neg e1, if_neg (by simp; exact fun h => e1 h.symm)]

theorem putV_get {N : Nat} {t t' : Tr Value} {dst : Option Tmp} {v : Value} (h : putV N t dst v = some t') : ∀ d, t'.get undef d = if dst = some d then v else t.get undef d := by
  obtain ⟨t2', q1, q2⟩ := putV_some h t v
  rw [h] at q1; cases q1
  exact q2

/-- A step under other temporaries. -/
theorem stepV_congr {h : Hands} {N : Nat} {ops : Array Oper} {o : Oper} {t t' : Tr Value} {H H' : Heap} (hs : stepV P h N ops o t H = some (t', H')) :
    ∃ v, putV N t o.dst v = some t' ∧ ∀ t2, Agree t t2 (o.looksAt ops) → ∀ t2', putV N t2 o.dst v = some t2' → stepV P h N ops o t2 H = some (t2', H') := by
  have hk : guardKnown ops t o = true := by
    unfold stepV at hs
    cases hh : guardKnown ops t o with
    | true => rfl
    | false => rw [hh] at hs; cases hs
  unfold stepV at hs
  rw [hk] at hs
  simp only [cond_true] at hs
  cases hw : wantedV ops t o with
  | false =>
    rw [hw] at hs
    simp only [cond_false] at hs
    split at hs
    · rename_i t3 hp
      cases hs
      refine ⟨_, hp, fun t2 ha t2' h2 => ?_⟩
      unfold stepV
      rw [← ha.known, hk, ← ha.wanted, hw]
      simp only [cond_true, cond_false, h2]
    · cases hs
  | true =>
    rw [hw] at hs
    simp only [cond_true] at hs
    cases ho : opW P h t H o with
    | none => rw [ho] at hs; cases hs
    | some nx =>
      rw [ho] at hs
      have key : ∀ {t2}, Agree t t2 (o.looksAt ops) → stepV P h N ops o t2 H = (match some nx with
     | some (.val v H') => match putV N t2 o.dst v with
       | some t' => some (t', H')
       | none => none
     | some (.skip H') => match putV N t2 o.dst undef with
       | some t' => some (t', H')
       | none => none
     | some (.enter f args H') => match h.call f args H' with
       | some (v, H'') => match putV N t2 o.dst v with
         | some t' => some (t', H'')
         | none => none
       | none => none
     | some (.yield l args H') => match h.yield l args H' with
       | some (v, H'') => match putV N t2 o.dst v with
         | some t' => some (t', H'')
         | none => none
       | none => none
     | none => none) := by
        intro t2 ha
        unfold stepV
        rw [← ha.known, hk, ← ha.wanted, hw, ← opW_congr ha.ops, ho]
        rfl
      cases nx with
      | val v H1 =>
        simp only at hs
        split at hs
        · rename_i t3 hp
          cases hs
          exact ⟨_, hp, fun t2 ha t2' h2 => by rw [key ha]; simp only [h2]⟩
        · cases hs
      | skip H1 =>
        simp only at hs
        split at hs
        · rename_i t3 hp
          cases hs
          exact ⟨_, hp, fun t2 ha t2' h2 => by rw [key ha]; simp only [h2]⟩
        · cases hs
      | enter f args H1 =>
        simp only at hs
        cases hc : h.call f args H1 with
        | none => rw [hc] at hs; cases hs
        | some vh =>
          rw [hc] at hs
          simp only at hs
          split at hs
          · rename_i t3 hp
            cases hs
            exact ⟨_, hp, fun t2 ha t2' h2 => by rw [key ha]; simp only [hc, h2]⟩
          · cases hs
      | yield f args H1 =>
        simp only at hs
        cases hc : h.yield f args H1 with
        | none => rw [hc] at hs; cases hs
        | some vh =>
          rw [hc] at hs
          simp only at hs
          split at hs
          · rename_i t3 hp
            cases hs
            exact ⟨_, hp, fun t2 ha t2' h2 => by rw [key ha]; simp only [hc, h2]⟩
          · cases hs

theorem vNx_heap {H : Heap} {x : Option Value} {v : Value} {H1 : Heap} (h : vNx H x = some (.val v H1)) : x = some v ∧ H1 = H := by
  cases x with
  | none => cases h
  | some y => simp [vNx] at h; exact ⟨by rw [h.1], h.2.symm⟩
theorem val_heap {H : Heap} {x v : Value} {H1 : Heap} (h : some (Nx.val x H) = some (.val v H1)) : H1 = H := by
  simp at h; exact h.2.symm
theorem cond_some {β : Type} {c : Bool} {x : Option β} {y : β} (h : cond c x none = some y) : x = some y := by
  cases c with
  | false => cases h
  | true => exact h
theorem pure_heap {H : Heap} {s : Sem Value} {v : Value} {H1 : Heap} (h : (match pureVal P s with
    | some v => cond (flat v) (some (Nx.val v H)) none
    | none => none) = some (.val v H1)) : H1 = H := by
  cases e : pureVal P s with
  | none => rw [e] at h; cases h
  | some u => rw [e] at h; exact val_heap (cond_some h)
theorem isIntT_some {s : TypeId} (hs : isIntT P s = true) : ∃ k, P.underlying s = some (.int k) := by
  unfold isIntT at hs
  split at hs
  · rename_i k hk; exact ⟨k, hk⟩
  · cases hs
theorem convertV_int {H : Heap} {s d : TypeId} {x : Value} {v : Value} {H1 : Heap} (hs : isIntT P s = true) (hd : isIntT P d = true) (h : convertV P H s d x = some (.val v H1)) : H1 = H := by
  obtain ⟨k, hk⟩ := isIntT_some hs
  obtain ⟨j, hj⟩ := isIntT_some hd
  unfold convertV at h
  rw [hk, hj] at h
  exact pure_heap (cond_some h)
theorem map_heap {H : Heap} {x : Option Value} {v : Value} {H1 : Heap} (h : x.map (Nx.val · H) = some (.val v H1)) : H1 = H := by
  cases x with
  | none => cases h
  | some y => simp at h; exact h.2.symm
theorem builtin_pure {H : Heap} {b : Builtin} {ts : List TypeId} {ty : TypeId} {args : List Value} {v : Value} {H1 : Heap}
    (hb : b = .len ∨ b = .cap ∨ b = .unsafeSliceData ∨ b = .max ∨ b = .min) (h : builtinV P H b ts ty args = some (.val v H1)) : H1 = H := by
  rcases hb with rfl | rfl | rfl | rfl | rfl
  · match args, h with
    | [x], h => exact map_heap (x := lenV P H ts x) h
    | [], h => cases h
    | _ :: _ :: _, h => cases h
  · match args, h with
    | [x], h => exact map_heap (x := capV P H ts x) h
    | [], h => cases h
    | _ :: _ :: _, h => cases h
  · match args, h with
    | [.slice none _ _], h => exact val_heap h
    | [.slice (some a) _ c], h => exact val_heap (cond_some (c := Nat.blt 0 c) h)
    | [], h => cases h
    | x :: _ :: _, h => cases x <;> first | (cases h; done) | (rename_i a _ _; cases a <;> cases h)
    | [.bool _], h | [.int _ _], h | [.float _ _], h | [.complex _ _ _], h | [.string _], h | [.pointer _], h | [.map _], h | [.chan _], h | [.func _ _ _], h | [.nilFunc], h | [.iface _ _], h | [.nilIface], h | [.agg _], h | [.tuple _], h => cases h
  · exact pure_heap (cond_some (c := args.all flat) h)
  · exact pure_heap (cond_some (c := args.all flat) h)
/-- What turns nothing leaves the heap. -/
theorem pureOp_heap {t : Tr Value} {o : Oper} {H H1 : Heap} {v : Value} (hp : pureOp P o.op = true) (h : opV P t H o = some (.val v H1)) : H1 = H := by
  obtain ⟨dst, op, type, pos, after, guard⟩ := o
  unfold opV at h
  cases op <;> simp only [pureOp, readsOnly] at hp h <;> (try (cases hp; done))
  case call c =>
    unfold callV at h
    cases he : evs P t c.args.toList with
    | none => rw [he] at h; cases h
    | some args =>
      rw [he] at h
      simp only at h
      cases hc : c.callee with
      | builtin b =>
        rw [hc] at h hp
        simp only at h
        refine builtin_pure ?_ h
        cases b <;> simp at hp ⊢
      | invoke _ _ => rw [hc] at hp; cases hp
      | value _ => rw [hc] at hp; cases hp
  case convert s d x =>
    simp at hp
    cases hx : ev P t x with
    | none => rw [hx] at h; cases h
    | some a => rw [hx] at h; exact convertV_int hp.1 hp.2 h
  case move x => exact (vNx_heap h).2
  case assign x => exact (vNx_heap h).2
  case pick c a b =>
    split at h
    · split at h
      · exact (vNx_heap h).2
      · cases h
    · split at h
      · exact (vNx_heap h).2
      · cases h
    · cases h
  case build ty ps =>
    split at h
    · exact (vNx_heap h).2
    · cases h
  case load ty a =>
    split at h
    · exact (vNx_heap h).2
    · cases h
  case nilCheck x =>
    split at h
    · exact val_heap (cond_some h)
    · cases h
  case binOp =>
    split at h
    · exact (vNx_heap h).2
    · cases h
  case unOp =>
    split at h
    · exact pure_heap (cond_some h)
    · cases h
  case makeInterface =>
    split at h
    · cases h
    · exact val_heap h
    · cases h
  case makeFunc =>
    split at h
    · split at h
      · cases h
      · exact val_heap h
    · cases h
  case slice =>
    split at h
    · exact (vNx_heap h).2
    · cases h
  case fieldAddr =>
    split at h
    · exact (vNx_heap h).2
    · cases h
  case field =>
    split at h
    · exact (vNx_heap h).2
    · cases h
  case indexAddr =>
    split at h
    · exact (vNx_heap h).2
    · cases h
  case index =>
    split at h
    · exact pure_heap (cond_some h)
    · cases h
  case lookup =>
    split at h
    · exact (vNx_heap h).2
    · cases h
  case extract =>
    split at h
    · exact (vNx_heap h).2
    · cases h
  case entry =>
    split at h
    · exact (vNx_heap h).2
    · cases h
theorem pureOpW_heap {h : Hands} {t : Tr Value} {o : Oper} {H H1 : Heap} {v : Value} (hp : pureOp P o.op = true) (hx : opW P h t H o = some (.val v H1)) : H1 = H := by
  unfold opW at hx
  split at hx
  · split at hx
    · split at hx
      · exact val_heap hx
      · exact pureOp_heap hp hx
    · cases hx
  · split at hx
    · split at hx
      · split at hx
        · exact val_heap hx
        · exact pureOp_heap hp hx
      · exact pureOp_heap hp hx
    · exact pureOp_heap hp hx
end

theorem sameK_eq {j k : IntKind} (h : sameK j k = true) : j = k := by
  cases j <;> cases k <;> first | rfl | (simp [sameK] at h)
theorem bytes_eq {a b : ByteArray} (h : a.data.toList = b.data.toList) : a = b := by
  cases a; cases b; simp at h; rw [h]
theorem sameV0_eq {a b : Value} (h : sameV0 a b = true) : a = b := by
  unfold sameV0 at h
  split at h <;> simp at h
  · rw [h]
  · obtain ⟨h1, h2⟩ := h; rw [h2, sameK_eq h1]
  · exact congrArg Value.string (bytes_eq (by rw [h]))
  all_goals first | rfl | simp_all
theorem sameL_eq {f : Value → Value → Bool} (hf : ∀ a b, f a b = true → a = b) : ∀ {a b : List Value}, sameL f a b = true → a = b
  | [], [], _ => rfl
  | [], _ :: _, h => by simp [sameL] at h
  | _ :: _, [], h => by simp [sameL] at h
  | x :: xs, y :: ys, h => by simp [sameL] at h; rw [hf x y h.1, sameL_eq hf h.2]
theorem sameF_eq : ∀ (n : Nat) (a b : Value), sameF n a b = true → a = b
  | 0, a, b, h => sameV0_eq (by simpa [sameF] using h)
  | n + 1, a, b, h => by
    unfold sameF at h
    split at h
    · rename_i e; cases e
    · rename_i e; cases e; have := sameL_eq (sameF_eq n) h; simp at this; rw [this]
    · rename_i e; cases e; have := sameL_eq (sameF_eq n) h; simp at this; rw [this]
    · rename_i e
      cases e
      simp only [Bool.and_eq_true] at h
      have h1 := Nat.eq_of_beq_eq_true h.1
      have h2 := sameL_eq (sameF_eq n) h.2.1
      have h3 := sameL_eq (sameF_eq n) h.2.2
      simp at h2 h3
      rw [h1, h2, h3]
    · rename_i e
      cases e
      simp only [Bool.and_eq_true] at h
      have h1 := Nat.eq_of_beq_eq_true h.1
      have h2 := sameL_eq (sameF_eq n) h.2.1
      have h3 := sameL_eq (sameF_eq n) h.2.2
      simp at h2 h3
      rw [h1, h2, h3]
    · rename_i e
      cases e
      simp only [Bool.and_eq_true] at h
      rw [Nat.eq_of_beq_eq_true h.1, sameF_eq n _ _ h.2]
    · rfl
    · exact sameV0_eq h
theorem sameV_eq {a b : Value} (h : sameV a b = true) : a = b := sameF_eq 6 a b h

section
variable {P : Program} {w0 : Cx} {base : Nat} {φ : Emb} {H : Heap} {w : World}

/-- A heap that bears the same blocks. -/
theorem Rel.ext (r : Rel P w0 base φ H w) {H1 : Heap} (hn : H1.next = H.next) (hg : ∀ b, H1.get b = H.get b) : Rel P w0 base φ H1 w :=
  { below := r.below, keep := r.keep, gl := r.gl, ng := fun b pl h hl => r.ng b pl h (by rw [← hg]; exact hl), low := r.low, top := fun b hb => r.top b (by omega),
    dead := fun b hb => by rw [hg]; exact r.dead b (by omega), glob := r.glob, blk := fun b pl h => by rw [hg]; exact r.blk b pl h,
    inj := fun b b' pl pl' hne h h' ho hl => r.inj b b' pl pl' hne h h' (by rw [← hg]; exact ho) (by rw [← hg]; exact hl),
    res := fun b hb => by rw [hg, hn]; exact r.res b hb, unp := fun b hb => by rw [hn]; exact r.unp b hb, hold := r.hold }

/-- Some blocks of one's own are hidden for a while; some dead numbers stay dead, some stay without a place. -/
theorem Rel.hide (r : Rel P w0 base φ H w) (Z : Nat → Bool) (hZ : ∀ z, Z z = true → (∃ pl, φ z = some pl) ∧ (H.get z).own = true) {H1 : Heap} (hn : H1.next = H.next) (hg : ∀ b, H1.get b = if Z b = true then .dead else H.get b)
    (D U : Nat → Prop) (hD : ∀ b, D b → b < H.next ∧ H1.get b = .dead) (hU : ∀ b, U b → b < H.next ∧ φ b = none) :
    ∃ c : Cx, Rel P c base φ H1 w ∧ ∀ φ' H2 w', φ.le φ' → Rel P c base φ' H2 w' → (∀ b, D b → b < H2.next ∧ H2.get b = .dead) ∧ (∀ b, U b → b < H2.next ∧ φ' b = none) ∧
      ∀ H3 : Heap, H3.next = H2.next → (∀ b, H3.get b = if Z b = true then H.get b else H2.get b) → Rel P w0 base φ' H3 w' := by
  refine ⟨⟨w, fun k => w0.G k ∨ ∃ z pl, Z z = true ∧ φ z = some pl ∧ pl.blk = k, fun b => w0.D b ∨ D b, fun b => w0.U b ∨ U b⟩, ?_, ?_⟩
  · refine ⟨.refl base w, fun _ _ => rfl, ?_, ?_, r.low, fun b hb => r.top b (by omega), ?_, r.glob, ?_, ?_, ?_, ?_, r.told, r.hold.2⟩
    · rintro k (hk | ⟨z, pl, hz, hp, rfl⟩)
      · exact r.gl k hk
      · exact r.live_size hp (Blk.live_of_own (hZ z hz).2)
    · intro b pl hb hl
      rw [hg] at hl
      by_cases hz : Z b = true
      · rw [if_pos hz] at hl; cases hl
      · rw [if_neg hz] at hl
        rintro (hk | ⟨z, pl', hz', hp, e⟩)
        · exact r.ng b pl hb hl hk
        · exact r.inj z b pl' pl (by rintro rfl; exact hz hz') hp hb (hZ z hz').2 hl e
    · intro b hb
      rw [hg]
      split
      · rfl
      · exact r.dead b (by omega)
    · intro b pl hb
      rw [hg]
      split
      · trivial
      · exact r.blk b pl hb
    · intro b b' pl pl' hne h h' ho hl
      rw [hg] at ho hl
      by_cases hz : Z b = true
      · rw [if_pos hz] at ho; cases ho
      · by_cases hz' : Z b' = true
        · rw [if_pos hz'] at hl; cases hl
        · rw [if_neg hz] at ho; rw [if_neg hz'] at hl
          exact r.inj b b' pl pl' hne h h' ho hl
    · rintro b (hb | hb)
      · have := r.res b hb
        rw [hn, hg]
        refine ⟨this.1, ?_⟩
        split
        · rfl
        · exact this.2
      · rw [hn]; exact hD b hb
    · rintro b (hb | hb)
      · have := r.unp b hb
        rw [hn]; exact this
      · rw [hn]; exact hU b hb
  · intro φ' H2 w' hle r2
    refine ⟨fun b hb => r2.res b (Or.inr hb), fun b hb => r2.unp b (Or.inr hb), fun H3 hn3 hg3 => ?_⟩
    have hzp : ∀ {z pl}, Z z = true → φ' z = some pl → φ z = some pl := by
      intro z pl hz hp
      obtain ⟨⟨q, hq⟩, _⟩ := hZ z hz
      have := hle _ _ hq
      rw [hp] at this; cases this
      exact hq
    refine ⟨r.below.trans r2.below, fun k hk => (r2.keep k (Or.inl hk)).trans (r.keep k hk), fun k hk => r2.gl k (Or.inl hk), ?_, r2.low, fun b hb => r2.top b (by omega), ?_, r2.glob, ?_, ?_, ?_, ?_, r.hold⟩
    · intro b pl hb hl hk
      rw [hg3] at hl
      by_cases hz : Z b = true
      · rw [if_pos hz] at hl; exact r.ng b pl (hzp hz hb) hl hk
      · rw [if_neg hz] at hl; exact r2.ng b pl hb hl (Or.inl hk)
    · intro b hb
      rw [hg3]
      by_cases hz : Z b = true
      · obtain ⟨⟨q, hq⟩, _⟩ := hZ b hz
        have h1 := hle _ _ hq
        have := r2.top b (by omega)
        rw [h1] at this; cases this
      · rw [if_neg hz]; exact r2.dead b (by omega)
    · intro b pl hb
      rw [hg3]
      by_cases hz : Z b = true
      · rw [if_pos hz]
        have hq := hzp hz hb
        refine ((r.blk b pl hq).mono hle).world fun _ => ?_
        exact r2.keep pl.blk (Or.inr ⟨b, pl, hz, hq, rfl⟩)
      · rw [if_neg hz]; exact r2.blk b pl hb
    · intro b b' pl pl' hne h h' ho hl
      rw [hg3] at ho hl
      by_cases hz : Z b = true
      · rw [if_pos hz] at ho
        have hq := hzp hz h
        by_cases hz' : Z b' = true
        · rw [if_pos hz'] at hl
          exact r.inj b b' pl pl' hne hq (hzp hz' h') ho hl
        · rw [if_neg hz'] at hl
          intro e
          exact r2.ng b' pl' h' hl (Or.inr ⟨b, pl, hz, hq, e⟩)
      · rw [if_neg hz] at ho
        by_cases hz' : Z b' = true
        · rw [if_pos hz'] at hl
          have hq := hzp hz' h'
          intro e
          exact r2.ng b pl h (Blk.live_of_own ho) (Or.inr ⟨b', pl', hz', hq, e.symm⟩)
        · rw [if_neg hz'] at hl
          exact r2.inj b b' pl pl' hne h h' ho hl
    · intro b hb
      have h1 := r.res b hb
      have h2 := r2.res b (Or.inl hb)
      rw [hn3, hg3]
      refine ⟨h2.1, ?_⟩
      split
      · exact h1.2
      · exact h2.2
    · intro b hb
      rw [hn3]; exact r2.unp b (Or.inl hb)

/-- A new block under a number that was kept for it. -/
theorem Rel.newAt (r : Rel P w0 base φ H w) {id : Nat} (hf : φ id = none) (hlt : id < H.next) (hD : ¬ w0.D id) (hU : ¬ w0.U id) (x : Blk) (o : Obj) (pl : Pl) (hb : pl.blk = w.heap.size)
    (hx : BRel (φ.add id pl) base (w.alloc o) pl x) : Rel P w0 base (φ.add id pl) (H.put id x) (w.alloc o) := by
  have hle := Emb.le_add pl hf
  refine ⟨r.below.alloc r.low o, ?_, ?_, ?_, ?_, ?_, ?_, ?_, ?_, ?_,
    fun b hb => by have := r.res b hb; rw [Heap.next_put, Heap.get_put, if_neg (by rintro rfl; exact hD hb)]; exact this,
    fun b hb => by have := r.unp b hb; rw [Heap.next_put]; exact ⟨this.1, by unfold Emb.add; rw [if_neg (by rintro rfl; exact hU hb)]; exact this.2⟩, r.hold⟩
  · intro k hk; rw [Below.heap_alloc _ _ _ (r.gl k hk)]; exact r.keep k hk
  · intro k hk; have := r.gl k hk; show k < (w.heap.push o).size; simp; omega
  · intro b q hq hl hG
    rw [Heap.get_put] at hl
    by_cases e : b = id
    · subst e; rw [Emb.add_same] at hq; cases hq; have := r.gl _ hG; omega
    · have hq' : φ b = some q := by unfold Emb.add at hq; rwa [if_neg e] at hq
      rw [if_neg e] at hl
      exact r.ng b q hq' hl hG
  · have := r.low; show base ≤ (w.heap.push o).size; simp; omega
  · intro b hb'
    rw [Heap.next_put] at hb'
    unfold Emb.add
    rw [if_neg (by omega)]
    exact r.top b (by omega)
  · intro b hb'
    rw [Heap.next_put] at hb'
    rw [Heap.get_put, if_neg (by omega)]
    exact r.dead b (by omega)
  · intro g hg; obtain ⟨q, hq, h2⟩ := r.glob g hg; exact ⟨q, hle _ _ hq, h2⟩
  · intro b q hq
    by_cases e : b = id
    · subst e
      rw [Emb.add_same] at hq; cases hq
      rw [Heap.get_put, if_pos rfl]
      exact hx
    · have hq' : φ b = some q := by unfold Emb.add at hq; rwa [if_neg e] at hq
      rw [Heap.get_put, if_neg e]
      refine ((r.blk b q hq').mono hle).world fun hl => ?_
      have := r.live_size hq' hl
      exact Below.heap_alloc _ _ _ this
  · intro b b' q q' hne hq hq' ho hl
    rw [Heap.get_put] at ho hl
    by_cases e : b = id
    · subst e
      rw [Emb.add_same] at hq; cases hq
      rw [if_neg (by omega)] at hl
      have hq2 : φ b' = some q' := by unfold Emb.add at hq'; rwa [if_neg (by omega)] at hq'
      have := r.live_size hq2 hl
      omega
    · have hq1 : φ b = some q := by unfold Emb.add at hq; rwa [if_neg e] at hq
      rw [if_neg e] at ho
      by_cases e' : b' = id
      · subst e'
        rw [Emb.add_same] at hq'; cases hq'
        have := r.live_size hq1 (Blk.live_of_own ho)
        omega
      · have hq2 : φ b' = some q' := by unfold Emb.add at hq'; rwa [if_neg e'] at hq'
        rw [if_neg e'] at hl
        exact r.inj b b' q q' hne hq1 hq2 ho hl

/-- A row of one's own, under a number that was kept for it. -/
theorem floatV_sound (r : Rel P w0 base φ H w) {N : Nat} {t : Tr Value} {a : Act} (ht : TRel φ N t a.tmps) {o : Oper} {id : Nat} {v : Value} {x : Blk} (h : floatV P t id o.op = some (v, x))
    (hf : φ id = none) (hlt : id < H.next) (hD : ¬ w0.D id) (hU : ¬ w0.U id) :
    x.own = true ∧ ∃ pl v' w', (execOp a.eval o).run P w = .ok (.value v') w' ∧ VRel (φ.add id pl) v v' ∧ Rel P w0 base (φ.add id pl) (H.put id x) w' := by
  have E : ∀ {x v}, ev P t x = some v → VRel φ v (a.eval x) := fun h => ev_sound r ht h
  have ptr : ∀ (pl : Pl), pl.blk = w.heap.size → pl.off = 0 → VRel (φ.add id pl) (.pointer (some ⟨id, 0, none⟩)) (.pointer (some ⟨w.heap.size, 0, none⟩)) := by
    intro pl hb ho
    have := VRel.ptr (φ := φ.add id pl) (o := 0) (Emb.add_same φ id pl)
    rw [hb, ho] at this
    exact this
  have row : ∀ {cs cs' : List Value} (hv : VRels φ cs cs') (el : TypeId) (sz : Nat), Rel P w0 base (φ.add id ⟨w.heap.size, 0, cs.length, sz, 0⟩) (H.put id (.cells cs el sz false false)) (w.alloc (.cells cs'.toArray el)) := by
    intro cs cs' hv el sz
    refine r.newAt hf hlt hD hU _ _ ⟨w.heap.size, 0, cs.length, sz, 0⟩ rfl ⟨rfl, fun _ => rfl, fun _ => rfl, Nat.zero_mod _, _, (0, 0), World.alloc_heap_new w _, ?_, ?_, fun _ => ⟨r.low, rfl⟩⟩
    · simp [hv.length]
    · have := hv.mono (Emb.le_add (φ := φ) ⟨w.heap.size, 0, cs.length, sz, 0⟩ hf)
      simpa [hv.length.symm] using this
  obtain ⟨dst, op, type, pos, after, guard⟩ := o
  unfold floatV at h
  unfold execOp
  cases op <;> simp only at h ⊢ <;> try (cases h; done)
  case alloc e =>
    cases hz : zeroT P e with
    | none => rw [hz] at h; cases h
    | some z =>
      rw [hz] at h; cases h
      obtain ⟨_, _, _, hzf, _⟩ := zeroT_spec hz
      refine ⟨rfl, _, _, _, ?_, ptr _ rfl rfl, row (VRel.refl φ hzf).cells e _⟩
      simp [Instr.alloc, run_zero hz, newVar, run_newRow]
  case box e x =>
    cases hx : ev P t x with
    | none => rw [hx] at h; cases h
    | some v =>
      rw [hx] at h; cases h
      refine ⟨rfl, _, _, _, ?_, ptr _ rfl rfl, row (E hx).cells e _⟩
      simp [Instr.box, newVar, run_newRow]
  case buildSlice ty len ps =>
    cases hp : evParts P t ps.toList with
    | none => rw [hp] at h; cases h
    | some l =>
      rw [hp] at h
      have hl := evParts_sound r ht hp
      have e0 : (ps.map fun x => match x with | (i, x) => (i, a.eval x)) = (ps.toList.map fun (i, x) => (i, a.eval x)).toArray := by rw [← Array.toList_inj]; simp
      rw [e0]
      cases hu : P.underlying ty with
      | none => rw [hu] at h; cases h
      | some d =>
        rw [hu] at h
        cases d <;> simp only at h <;> try (cases h; done)
        rename_i e
        cases hs : sizeT P e with
        | none => rw [hs] at h; cases h
        | some k =>
          rw [hs] at h
          cases hz : zeroT P e with
          | none => rw [hz] at h; cases h
          | some z =>
            rw [hz] at h
            simp only at h
            have hzs : z.cells.size = k := by
              obtain ⟨i, q1, _, _, q4⟩ := zeroT_spec hz
              unfold sizeT at hs
              rw [q1] at hs
              simp at hs
              omega
            cases hle : Nat.ble (len * k) 16777216 with
            | false => rw [hle] at h; cases h
            | true =>
              rw [hle] at h
              have hle' := Nat.le_of_ble_eq_true hle
              simp only [cond_true] at h
              cases hf' : Instr.fill (fun i => some (i * k, k)) (repCells z.cells.toList len).toArray l with
              | none => rw [hf'] at h; cases h
              | some cs =>
                rw [hf'] at h; cases h
                obtain ⟨out', q1, q2, q3⟩ := fill_sound (cs' := (repCells z.cells.toList len).toArray) hl (by simpa using rep_rel (φ := φ) (zero_rel hz) len) hf'
                refine ⟨rfl, ⟨w.heap.size, 0, cs.toList.length, k, 0⟩, .slice (some ⟨w.heap.size, 0, none⟩) len len, w.alloc (.cells out' e), ?_, slice_exact (Emb.add_same φ id ⟨w.heap.size, 0, cs.toList.length, k, 0⟩) (Nat.le_refl _) rfl, ?_⟩
                · have hrep := rep_eq z.cells len
                  rw [hzs] at hrep
                  have hrep' : (Array.range (len * k)).map (fun i => z.cells[i % k]!) = (repCells z.cells.toList len).toArray := by
                    rw [← hrep]
                  simp only [Instr.buildSlice, Sem.run_bind, run_under hu, Result.andThen_ok, run_size hs]
                  rw [if_neg (by omega)]
                  by_cases h0 : len * k = 0
                  · have e1 : repCells z.cells.toList len = [] := List.eq_nil_of_length_eq_zero (by rw [rep_length]; simp [hzs, h0])
                    rw [e1] at q1
                    simp [h0, q1, run_newRow, show Array.range 0 = #[] from rfl]
                  · simp only [h0, if_false, Sem.run_bind, run_zero hz, Result.andThen_ok, Sem.run_pure]
                    rw [hzs, hrep', q1]
                    simp [run_newRow]
                · have := row q2 e k
                  simpa using this
end
end Go.Eng
