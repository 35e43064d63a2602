/- The engine, part 17: what the checks of a region that draws come to, in plain words. -/
import Derived.Test.YtkfkpiphbflokaaGreatDoorEF
namespace Go.Eng
set_option linter.unusedSectionVars false
variable [Sig]

theorem Rec.pure_iff {r : Rec} : r.pure = true ↔ r.kind = 0 := by simp [Rec.pure]
theorem Rec.float_iff {r : Rec} : r.float = true ↔ r.kind = 1 := by simp [Rec.float]
theorem Rec.chain_iff {r : Rec} : r.chain = true ↔ r.kind = 2 := by simp [Rec.chain]

/-- One operation of the text's run. -/
structure StepOK (P : Program) (h : Hands) (N : Nat) (ops : Array Oper) (id j : Nat) (o : Oper) (r : Rec) (t : Tr Value) (H : Heap) (t' : Tr Value) (H' : Heap) : Prop where
  et : r.t = t
  eH : r.H = H'
  put : putV N t o.dst r.v = some t'
  known : guardKnown ops t o = true
  what : (r.kind = 0 ∧ H' = H ∧ (wantedV ops t o = true → pureOp P o.op = true) ∧ (wantedV ops t o = false → r.v = undef)) ∨
    (r.kind = 1 ∧ wantedV ops t o = true ∧ floatV P t (id + j) o.op = some (r.v, r.blk) ∧ H' = H.put (id + j) r.blk) ∨
    (r.kind = 2 ∧ stepV P h N ops o t H = some (t', H'))

theorem trace_spec {P : Program} {h : Hands} {N : Nat} {ops : Array Oper} {id : Nat} : ∀ (os : List Oper) (i : Nat) {t : Tr Value} {H : Heap} {x : Traced}, trace P h N ops id i os t H = some x →
    x.rs.length = os.length ∧ ∃ (TT : Nat → Tr Value) (HH : Nat → Heap), TT i = t ∧ HH i = H ∧ TT (i + os.length) = x.t ∧ HH (i + os.length) = x.H ∧
      ∀ k o r, os[k]? = some o → x.rs[k]? = some r → StepOK P h N ops id (i + k) o r (TT (i + k)) (HH (i + k)) (TT (i + k + 1)) (HH (i + k + 1))
  | [], i, t, H, x, hx => by
    simp [trace] at hx
    subst hx
    exact ⟨rfl, fun _ => t, fun _ => H, rfl, rfl, rfl, rfl, by simp⟩
  | o :: os, i, t, H, x, hx => by
    have glue : ∀ {r : Rec} {t' : Tr Value} {H' : Heap} {y : Traced}, trace P h N ops id (i + 1) os t' H' = some y → x = y.add r → StepOK P h N ops id i o r t H t' H' →
        x.rs.length = (o :: os).length ∧ ∃ (TT : Nat → Tr Value) (HH : Nat → Heap), TT i = t ∧ HH i = H ∧ TT (i + (o :: os).length) = x.t ∧ HH (i + (o :: os).length) = x.H ∧
          ∀ k o1 r, (o :: os)[k]? = some o1 → x.rs[k]? = some r → StepOK P h N ops id (i + k) o1 r (TT (i + k)) (HH (i + k)) (TT (i + k + 1)) (HH (i + k + 1)) := by
      intro r t' H' y hy hxy hs
      obtain ⟨h1, TT, HH, e1, e2, e3, e4, h2⟩ := trace_spec os (i + 1) hy
      subst hxy
      refine ⟨by simp [Traced.add, h1], fun j => if j = i then t else TT j, fun j => if j = i then H else HH j, by simp, by simp, ?_, ?_, ?_⟩
      · simp only [List.length_cons]
        rw [if_neg (by omega), show i + (os.length + 1) = i + 1 + os.length by omega, e3]; rfl
      · simp only [List.length_cons]
        rw [if_neg (by omega), show i + (os.length + 1) = i + 1 + os.length by omega, e4]; rfl
      · intro k o1 r1 ho hr
        cases k with
        | zero =>
          simp [Traced.add] at ho hr
          subst ho hr
          simp only [Nat.add_zero, if_true]
          rw [if_neg (by omega), if_neg (by omega), e1, e2]
          exact hs
        | succ k =>
          simp [Traced.add] at ho hr
          have := h2 k o1 r1 ho hr
          simp only
          rw [if_neg (by omega), if_neg (by omega), if_neg (by omega), if_neg (by omega), show i + (k + 1) = i + 1 + k by omega]
          exact this
    simp only [trace] at hx
    cases hk : guardKnown ops t o with
    | false => rw [hk] at hx; cases hx
    | true =>
    rw [hk] at hx
    simp only [cond_true] at hx
    cases hw : wantedV ops t o with
    | false =>
      rw [hw] at hx
      simp only [cond_false] at hx
      split at hx
      · rename_i t' hp
        split at hx
        · rename_i y hy
          simp only [Option.some.injEq] at hx
          exact glue hy hx.symm ⟨rfl, rfl, hp, hk, .inl ⟨rfl, rfl, by simp [hw], fun _ => rfl⟩⟩
        · cases hx
      · cases hx
    | true =>
      rw [hw] at hx
      simp only [cond_true] at hx
      cases hf : isFloat o.op with
      | true =>
        rw [hf] at hx
        simp only [cond_true] at hx
        split at hx
        · rename_i v b hv
          split at hx
          · rename_i t' hp
            split at hx
            · rename_i y hy
              simp only [Option.some.injEq] at hx
              exact glue hy hx.symm ⟨rfl, rfl, hp, hk, .inr (.inl ⟨rfl, hw, hv, rfl⟩)⟩
            · cases hx
          · cases hx
        · cases hx
      | false =>
        rw [hf] at hx
        simp only [cond_false] at hx
        cases hpu : pureOp P o.op with
        | true =>
          rw [hpu] at hx
          simp only [cond_true] at hx
          split at hx
          · rename_i v H1 hv
            split at hx
            · rename_i t' hp
              split at hx
              · rename_i y hy
                simp only [Option.some.injEq] at hx
                exact glue hy hx.symm ⟨rfl, rfl, hp, hk, .inl ⟨rfl, rfl, fun _ => hpu, by simp [hw]⟩⟩
              · cases hx
            · cases hx
          · cases hx
        | false =>
          rw [hpu] at hx
          simp only [cond_false] at hx
          split at hx
          · rename_i t' H' hs
            split at hx
            · rename_i y hy
              simp only [Option.some.injEq] at hx
              refine glue hy hx.symm ⟨rfl, rfl, ?_, hk, .inr (.inr ⟨rfl, hs⟩)⟩
              obtain ⟨v, hv, _⟩ := stepV_congr hs
              show putV N t o.dst (dstOf o.dst t') = some t'
              cases hd : o.dst with
              | none => rw [hd] at hv; exact hv
              | some d =>
                have := putV_get hv d
                rw [hd, if_pos rfl] at this
                simp only [dstOf, this]
                rw [hd] at hv; exact hv
            · cases hx
          · cases hx

theorem maskOf_spec (acc : List Nat) {b : Nat} : ∀ {l : List Edge}, (maskOf acc l).testBit b = true → ∃ e ∈ l, Region.binds .any e = true ∧ (b = e.on ∨ (acc.getD e.on 0).testBit b = true)
  | [], h => by simp [maskOf] at h
  | e :: es, h => by
    simp only [maskOf] at h
    cases hb : Region.binds .any e with
    | false =>
      rw [hb] at h
      obtain ⟨e', h1, h2⟩ := maskOf_spec acc h
      exact ⟨e', by simp [h1], h2⟩
    | true =>
      rw [hb] at h
      simp only [cond_true, Nat.testBit_or, Bool.or_eq_true] at h
      rcases h with h | h | h
      · rw [Nat.testBit_two_pow] at h
        exact ⟨e, by simp, hb, .inl (by simpa using Eq.symm (by simpa using h))⟩
      · exact ⟨e, by simp, hb, .inr h⟩
      · obtain ⟨e', h1, h2⟩ := maskOf_spec acc h
        exact ⟨e', by simp [h1], h2⟩

theorem getD_append_left {l k : List Nat} {i : Nat} (h : i < l.length) : (l ++ k).getD i 0 = l.getD i 0 := by
  simp [List.getD, List.getElem?_append_left h]
theorem masks_prefix : ∀ (os : List Oper) (acc : List Nat) {j : Nat}, j < acc.length → (masks os acc).getD j 0 = acc.getD j 0
  | [], _, _, _ => rfl
  | o :: os, acc, j, h => by
    simp only [masks]
    rw [masks_prefix os _ (by simp; omega), getD_append_left h]
theorem masks_length : ∀ (os : List Oper) (acc : List Nat), (masks os acc).length = acc.length + os.length
  | [], _ => by simp [masks]
  | o :: os, acc => by simp only [masks]; rw [masks_length os]; simp; omega
theorem masks_spec : ∀ (os : List Oper) (acc : List Nat) {k : Nat} {o : Oper} {b : Nat}, os[k]? = some o → ((masks os acc).getD (acc.length + k) 0).testBit b = true →
    ∃ e ∈ o.after.toList, Region.binds .any e = true ∧ (b = e.on ∨ ((masks os acc).getD e.on 0).testBit b = true)
  | [], _, _, _, _, h, _ => by simp at h
  | o :: os, acc, k, o1, b, h, hb => by
    simp only [masks] at hb ⊢
    cases k with
    | zero =>
      simp at h
      subst h
      rw [masks_prefix os _ (by simp)] at hb
      have : (acc ++ [maskOf acc o.after.toList]).getD (acc.length + 0) 0 = maskOf acc o.after.toList := by simp [List.getD]
      rw [this] at hb
      obtain ⟨e, h1, h2, h3⟩ := maskOf_spec acc hb
      refine ⟨e, h1, h2, h3.imp id fun h3 => ?_⟩
      have hlt : e.on < acc.length := by
        rcases Nat.lt_or_ge e.on acc.length with h | h
        · exact h
        · simp [List.getD, List.getElem?_eq_none h] at h3
      rw [masks_prefix os _ (by simp; omega), getD_append_left hlt]
      exact h3
    | succ k =>
      simp at h
      have := masks_spec os (acc ++ [maskOf acc o.after.toList]) (b := b) h (by simpa [Nat.add_assoc, Nat.add_comm 1 k] using hb)
      exact this

theorem edgesBack_spec {i : Nat} : ∀ {l : List Edge}, edgesBack i l = true → ∀ e ∈ l, Region.binds .any e = true → e.on < i
  | [], _ => by simp
  | e :: es, h => by
    simp only [edgesBack, Bool.and_eq_true] at h
    intro e' he hb
    simp only [List.mem_cons] at he
    rcases he with rfl | he
    · rw [hb] at h; simpa [Nat.blt_eq] using h.1
    · exact edgesBack_spec h.2 e' he hb
theorem allBack_spec : ∀ {os : List Oper} {i : Nat}, allBack i os = true → ∀ k o, os[k]? = some o → ∀ e ∈ o.after.toList, Region.binds .any e = true → e.on < i + k
  | [], _, _ => by simp
  | o :: os, i, h => by
    simp only [allBack, Bool.and_eq_true] at h
    intro k o1 ho e he hb
    cases k with
    | zero => simp at ho; subst ho; exact edgesBack_spec h.1 e he hb
    | succ k =>
      simp at ho
      have := allBack_spec h.2 k o1 ho e he hb
      omega

theorem clashesOk_spec {ops : Array Oper} {ms : List Nat} (h : clashesOk ops ms = true) {i j : Nat} {a b : Oper} (hi : ops[i]? = some a) (hj : ops[j]? = some b) (hlt : i < j)
    (hm : (ms.getD j 0).testBit i = false) : a.apart ops b = true := by
  unfold clashesOk at h
  have hjs : j < ops.size := (Array.getElem?_eq_some_iff.1 hj).1
  have h1 := (List.all_eq_true.1 h) j (by simpa using hjs)
  have h2 := (List.all_eq_true.1 h1) i (by simpa using hlt)
  rw [hi, hj] at h2
  simp only [hm, Bool.or_false] at h2
  simpa [clash] using h2

theorem addFloats_miss {id m p : Nat} {b : Nat} : ∀ (rs : List Rec) (i : Nat) (H : Heap), (∀ k r, rs[k]? = some r → r.kind = 1 → m.testBit (i + k) = true → p ≤ i + k → b ≠ id + (i + k)) → (addFloats id m p i rs H).get b = H.get b
  | [], _, _, _ => rfl
  | r :: rs, i, H, h => by
    simp only [addFloats]
    rw [addFloats_miss rs (i + 1) _ fun k r1 hr hk hm hp => by
      have := h (k + 1) r1 (by simpa using hr) hk (by rwa [show i + (k + 1) = i + 1 + k by omega]) (by omega)
      rwa [show i + (k + 1) = i + 1 + k by omega] at this]
    cases hc : (r.float && (m.testBit i && Nat.ble p i)) with
    | false => rfl
    | true =>
      simp only [Bool.and_eq_true, Rec.float_iff] at hc
      simp only [cond_true]
      rw [Heap.get_put, if_neg]
      exact h 0 r rfl hc.1 hc.2.1 (Nat.le_of_ble_eq_true hc.2.2)
theorem addFloats_hit {id m p : Nat} : ∀ (rs : List Rec) (i : Nat) (H : Heap) {k : Nat} {r : Rec}, rs[k]? = some r → r.kind = 1 → m.testBit (i + k) = true → p ≤ i + k → (addFloats id m p i rs H).get (id + (i + k)) = r.blk
  | [], _, _, _, _, h, _, _, _ => by simp at h
  | r :: rs, i, H, k, r1, h, hk, hm, hp => by
    simp only [addFloats]
    cases k with
    | zero =>
      simp at h
      subst h
      rw [addFloats_miss rs (i + 1) _ fun k r1 _ _ _ _ => by omega]
      have hc : (r.float && (m.testBit i && Nat.ble p i)) = true := by
        simp only [Bool.and_eq_true, Rec.float_iff]
        exact ⟨hk, hm, Nat.ble_eq_true_of_le hp⟩
      rw [hc]
      simp only [cond_true, Nat.add_zero]
      rw [Heap.get_put, if_pos rfl]
    | succ k =>
      have := addFloats_hit (id := id) (p := p) rs (i + 1) (cond (r.float && (m.testBit i && Nat.ble p i)) (H.put (id + i) r.blk) H) (k := k) (r := r1) (by simpa using h) hk (by rwa [show i + (k + 1) = i + 1 + k by omega] at hm) (by omega)
      rw [show i + (k + 1) = i + 1 + k by omega]
      exact this
theorem addFloats_next {id m p : Nat} : ∀ (rs : List Rec) (i : Nat) (H : Heap), (addFloats id m p i rs H).next = H.next
  | [], _, _ => rfl
  | r :: rs, i, H => by
    simp only [addFloats]
    rw [addFloats_next rs]
    cases (r.float && (m.testBit i && Nat.ble p i)) with
    | false => rfl
    | true => exact Heap.next_put _ _ _

theorem lowOf_le {m p : Nat} : ∀ (rs : List Rec) (acc i : Nat), acc ≤ p → (∀ k r, rs[k]? = some r → r.kind = 2 → m.testBit (i + k) = true → i + k < p) → lowOf m acc i rs ≤ p
  | [], _, _, h, _ => h
  | r :: rs, acc, i, h, hc => by
    simp only [lowOf]
    refine lowOf_le rs _ _ ?_ fun k r1 hr hk hm => by
      have := hc (k + 1) r1 (by simpa using hr) hk (by rwa [show i + (k + 1) = i + 1 + k by omega])
      omega
    cases hb : (r.chain && m.testBit i) with
    | false => exact h
    | true =>
      simp only [Bool.and_eq_true, Rec.chain_iff] at hb
      exact hc 0 r rfl hb.1 hb.2
theorem freeTo_true {j : Nat} : ∀ (n : Nat) (rs : List Rec) (ms : List Nat), (∀ k r m, k < n → rs[k]? = some r → ms[k]? = some m → r.kind = 2 → m.testBit j = false) → freeTo j n rs ms = true
  | 0, _, _, _ => by simp [freeTo]
  | n + 1, [], _, _ => by simp [freeTo]
  | n + 1, _ :: _, [], _ => by simp [freeTo]
  | n + 1, r :: rs, m :: ms, h => by
    simp only [freeTo]
    have hc : (r.chain && m.testBit j) = false := by
      cases hb : r.chain with
      | false => rfl
      | true => simpa using h 0 r m (by omega) rfl rfl (Rec.chain_iff.1 hb)
    rw [hc]
    exact freeTo_true n rs ms fun k r1 m1 hk hr hm => h (k + 1) r1 m1 (by omega) (by simpa using hr) (by simpa using hm)

theorem stagesOk_spec {P : Program} {h : Hands} {ops : Array Oper} {id : Nat} {rs : List Rec} {ms : List Nat} {j : Nat} {o : Oper} {r : Rec} {m lo : Nat} : ∀ {cs : List Rec} {i : Nat}, stagesOk P h ops id rs ms j o r m lo i cs = true →
    ∀ k c, cs[k]? = some c → c.kind = 2 → stageOk P h ops id rs ms j o r m lo (i + k + 1) c.H = true
  | [], _, _ => by simp
  | c :: cs, i, h => by
    simp only [stagesOk, Bool.and_eq_true] at h
    intro k c1 hc hk
    cases k with
    | zero =>
      simp at hc
      subst hc
      have := h.1
      rw [Rec.chain_iff.2 hk] at this
      exact this
    | succ k =>
      have := stagesOk_spec h.2 k c1 (by simpa using hc) hk
      rwa [show i + (k + 1) + 1 = i + 1 + k + 1 by omega]
theorem stableAll_spec {P : Program} {h : Hands} {ops : Array Oper} {id : Nat} {rs : List Rec} {ms : List Nat} {H0 : Heap} : ∀ {os : List Oper} {rest : List Rec} {j : Nat}, stableAll P h ops id rs ms H0 j os rest = true →
    ∀ k o r, os[k]? = some o → rest[k]? = some r → r.kind = 0 → stageOk P h ops id rs ms (j + k) o r (ms.getD (j + k) 0) (lowOf (ms.getD (j + k) 0) 0 0 rs) 0 H0 = true ∧
      stagesOk P h ops id rs ms (j + k) o r (ms.getD (j + k) 0) (lowOf (ms.getD (j + k) 0) 0 0 rs) 0 rs = true
  | [], _, _, _ => by simp
  | _ :: _, [], _, _ => by simp
  | o :: os, r :: rest, j, h => by
    simp only [stableAll, Bool.and_eq_true] at h
    intro k o1 r1 ho hr hk
    cases k with
    | zero =>
      simp at ho hr
      subst ho hr
      have := h.1
      rw [Rec.pure_iff.2 hk] at this
      simpa using this
    | succ k =>
      have := stableAll_spec h.2 k o1 r1 (by simpa using ho) (by simpa using hr) hk
      rwa [show j + (k + 1) = j + 1 + k by omega]
theorem behind_spec {m : Nat} : ∀ {n : Nat} {rs : List Rec} {i : Nat}, behind m i n rs = true → ∀ k r, k < n → rs[k]? = some r → r.kind ≠ 0 → m.testBit (i + k) = true
  | 0, _, _, _ => by simp
  | n + 1, [], _, _ => by simp
  | n + 1, r :: rs, i, h => by
    simp only [behind, Bool.and_eq_true, Bool.or_eq_true, Rec.pure_iff] at h
    intro k r1 hk hr hne
    cases k with
    | zero => simp at hr; subst hr; exact h.1.resolve_left hne
    | succ k =>
      have := behind_spec h.2 k r1 (by omega) (by simpa using hr) hne
      rwa [show i + (k + 1) = i + 1 + k by omega]
theorem chainOk_spec {rs : List Rec} : ∀ {rest : List Rec} {ms : List Nat} {i : Nat}, chainOk rs i rest ms = true → ∀ k r m, rest[k]? = some r → ms[k]? = some m → r.kind = 2 → behind m 0 (i + k) rs = true
  | [], _, _, _ => by simp
  | _ :: _, [], _, _ => by simp
  | r :: rest, m :: ms, i, h => by
    simp only [chainOk, Bool.and_eq_true, Bool.or_eq_true] at h
    intro k r1 m1 hr hm hk
    cases k with
    | zero =>
      simp at hr hm
      subst hr hm
      have := h.1
      rw [Rec.chain_iff.2 hk] at this
      simpa using this
    | succ k =>
      have := chainOk_spec h.2 k r1 m1 (by simpa using hr) (by simpa using hm) hk
      rwa [show i + (k + 1) = i + 1 + k by omega]

/-- All that the checks say. -/
structure Plan (P : Program) (h : Hands) (N : Nat) (ops : Array Oper) (id : Nat) (rs : List Rec) (ms : List Nat) (TT : Nat → Tr Value) (HH : Nat → Heap) : Prop where
  len : rs.length = ops.size
  step : ∀ j o r, ops[j]? = some o → rs[j]? = some r → StepOK P h N ops id j o r (TT j) (HH j) (TT (j + 1)) (HH (j + 1))
  mask : ∀ j o b, ops[j]? = some o → (ms.getD j 0).testBit b = true → ∃ e ∈ o.after.toList, Region.binds .any e = true ∧ (b = e.on ∨ (ms.getD e.on 0).testBit b = true)
  back : ∀ j o, ops[j]? = some o → ∀ e ∈ o.after.toList, Region.binds .any e = true → e.on < j
  apart : ∀ i j a b, ops[i]? = some a → ops[j]? = some b → i < j → (ms.getD j 0).testBit i = false → a.apart ops b = true
  chain : ∀ j r i q, rs[j]? = some r → r.kind = 2 → i < j → rs[i]? = some q → q.kind ≠ 0 → (ms.getD j 0).testBit i = true
  stable : ∀ j o r p, ops[j]? = some o → rs[j]? = some r → r.kind = 0 → (p = 0 ∨ ∃ c q, p = c + 1 ∧ rs[c]? = some q ∧ q.kind = 2) →
    (∀ c q, rs[c]? = some q → q.kind = 2 → (ms.getD j 0).testBit c = true → c < p) → (∀ c q, c < p → rs[c]? = some q → q.kind = 2 → (ms.getD c 0).testBit j = false) →
    stableAt P h ops o r (addFloats id (ms.getD j 0) p 0 rs (HH p)) = true

theorem getD_of {l : List Nat} {i m : Nat} (h : l[i]? = some m) : l.getD i 0 = m := by simp [List.getD, h]

theorem drawV_plan {P : Program} {h : Hands} {N : Nat} {ops : Array Oper} {t t' : Tr Value} {H H' : Heap} (hd : drawV P h N ops t H = some (t', H')) :
    ∃ rs ms TT HH, Plan P h N ops H.next rs ms TT HH ∧ TT 0 = t ∧ HH 0 = ⟨H.tr, H.next + ops.size⟩ ∧ TT ops.size = t' ∧ HH ops.size = H' := by
  simp only [drawV] at hd
  cases hx : trace P h N ops H.next 0 ops.toList t ⟨H.tr, H.next + ops.size⟩ with
  | none => rw [hx] at hd; cases hd
  | some x =>
    rw [hx] at hd
    simp only at hd
    cases hc : (allBack 0 ops.toList && (clashesOk ops (masks ops.toList []) && (chainOk x.rs 0 x.rs (masks ops.toList []) && stableAll P h ops H.next x.rs (masks ops.toList []) ⟨H.tr, H.next + ops.size⟩ 0 ops.toList x.rs))) with
    | false => rw [hc] at hd; cases hd
    | true =>
      rw [hc] at hd
      simp only [cond_true, Option.some.injEq, Prod.mk.injEq] at hd
      simp only [Bool.and_eq_true] at hc
      obtain ⟨c1, c2, c3, c4⟩ := hc
      obtain ⟨q1, TT, HH, q2, q3, q4, q5, q6⟩ := trace_spec ops.toList 0 hx
      have hml : (masks ops.toList []).length = ops.size := by rw [masks_length]; simp
      have tol : ∀ {j : Nat} {o : Oper}, ops[j]? = some o → ops.toList[j]? = some o := fun hj => by simpa using hj
      refine ⟨x.rs, masks ops.toList [], TT, HH, ⟨by simpa using q1, ?_, ?_, ?_, ?_, ?_, ?_⟩, q2, q3, by rw [← hd.1, ← q4]; simp, by rw [← hd.2, ← q5]; simp⟩
      · intro j o r ho hr
        simpa using q6 j o r (tol ho) hr
      · intro j o b ho hb
        exact masks_spec ops.toList [] (k := j) (tol ho) (by simpa using hb)
      · intro j o ho e he hb
        simpa using allBack_spec c1 j o (tol ho) e he hb
      · intro i j a b ha hb hlt hm
        exact clashesOk_spec c2 ha hb hlt hm
      · intro j r i q hr hk hlt hq hne
        have hj : j < (masks ops.toList []).length := by
          have := (List.getElem?_eq_some_iff.1 hr).1
          rw [hml]; have : x.rs.length = ops.size := by simpa using q1
          omega
        have hm := List.getElem?_eq_getElem hj
        have := behind_spec (chainOk_spec c3 j r _ hr hm hk) i q (by omega) hq hne
        rw [getD_of hm]
        simpa using this
      · intro j o r p ho hr hk hp h1 h2
        have hs := stableAll_spec c4 j o r (tol ho) hr hk
        simp only [Nat.zero_add] at hs
        have hlo : lowOf ((masks ops.toList []).getD j 0) 0 0 x.rs ≤ p := lowOf_le _ _ _ (Nat.zero_le _) fun k r hr hk hm => by
          simpa using h1 k r hr hk (by simpa using hm)
        have hfr : freeTo j p x.rs (masks ops.toList []) = true := freeTo_true _ _ _ fun k r m hlt hr hm hk => by
          have := h2 k r hlt hr hk
          rwa [getD_of hm] at this
        have hcond : (Nat.ble (lowOf ((masks ops.toList []).getD j 0) 0 0 x.rs) p && freeTo j p x.rs (masks ops.toList [])) = true := by
          rw [hfr, Nat.ble_eq_true_of_le hlo]; rfl
        rcases hp with rfl | ⟨c, q, rfl, hq, hqk⟩
        · have := hs.1
          unfold stageOk at this
          rw [hcond] at this
          rw [q3]
          exact this
        · have := stagesOk_spec hs.2 c q hq hqk
          unfold stageOk at this
          simp only [Nat.zero_add] at this
          rw [hcond] at this
          have hc' : c < ops.size := by
            have := (List.getElem?_eq_some_iff.1 hq).1
            have e : x.rs.length = ops.size := by simpa using q1
            omega
          have hst := q6 c _ q (tol (Array.getElem?_eq_getElem hc')) hq
          have e := hst.eH
          simp only [Nat.zero_add] at e
          rw [← e]
          exact this
end Go.Eng
