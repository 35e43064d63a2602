/- The engine, part 8: maps. -/
import Derived.Test.YtkfkpiphbflokaaGreatDoorE7
namespace Go.Eng
open Go.RowKit (Below)
set_option linter.unusedSectionVars false
variable [Sig]

variable {α β : Type}

theorem pureVal_bind' (P : Program) (s : Sem α) (f : α → Sem β) : pureVal P (s.bind f) = (pureVal P s).bind fun a => pureVal P (f a) := by
  induction s with
  | pure a => rfl
  | program k ih => simp only [Sem.bind, pureVal]; exact ih P
  | mark m k ih => simp only [Sem.bind, pureVal]; exact ih
  | _ => rfl
theorem pureVal_bind (P : Program) (s : Sem α) (f : α → Sem β) : pureVal P (s >>= f) = (pureVal P s).bind fun a => pureVal P (f a) := pureVal_bind' P s f
theorem pureVal_pure (P : Program) (a : α) : pureVal P (pure a : Sem α) = some a := rfl
theorem pureVal_under (P : Program) (t : TypeId) : pureVal P (underlying t) = P.underlying t := by
  unfold underlying
  rw [pureVal_bind]
  show ((some P).bind fun a => pureVal P (match a.underlying t with | some d => pure d | none => stuck "no such type")) = _
  simp only [Option.bind_some]
  cases P.underlying t <;> rfl

section
variable {P : Program} {w0 : Cx} {base : Nat} {φ : Emb} {H : Heap} {w : World}

theorem ERels.length {l l' : List MapEntry} (h : ERels φ l l') : l'.length = l.length := by induction h <;> simp_all
theorem ERels.get {l l' : List MapEntry} (h : ERels φ l l') {i : Nat} {e : MapEntry} (hi : l[i]? = some e) : ∃ e', l'[i]? = some e' ∧ VRel φ e.key e'.key ∧ VRel φ e.val e'.val ∧ e'.born = e.born := by
  induction h generalizing i with
  | nil => simp at hi
  | cons hk hv hb t ih =>
    cases i with
    | zero => simp at hi; subst hi; exact ⟨_, rfl, hk, hv, hb⟩
    | succ i => simp at hi ⊢; exact ih hi
theorem ERels.modify {l l' : List MapEntry} (h : ERels φ l l') (i : Nat) {f f' : MapEntry → MapEntry}
    (hf : ∀ e e', VRel φ e.key e'.key → VRel φ e.val e'.val → e'.born = e.born → VRel φ (f e).key (f' e').key ∧ VRel φ (f e).val (f' e').val ∧ (f' e').born = (f e).born) : ERels φ (l.modify i f) (l'.modify i f') := by
  induction h generalizing i with
  | nil => simp; exact .nil
  | cons hk hv hb t ih =>
    cases i with
    | zero =>
      simp only [List.modify_zero_cons]
      obtain ⟨q1, q2, q3⟩ := hf _ _ hk hv hb
      exact .cons q1 q2 q3 t
    | succ i => simp only [List.modify_succ_cons]; exact .cons hk hv hb (ih i)
theorem ERels.append {a a' b b' : List MapEntry} (h : ERels φ a a') (k : ERels φ b b') : ERels φ (a ++ b) (a' ++ b') := by
  induction h with
  | nil => exact k
  | cons hk hv hb t ih => exact .cons hk hv hb ih
theorem ERels.eraseIdx {a a' : List MapEntry} (h : ERels φ a a') (i : Nat) : ERels φ (a.eraseIdx i) (a'.eraseIdx i) := by
  induction h generalizing i with
  | nil => simp; exact .nil
  | cons hk hv hb t ih =>
    cases i with
    | zero => simpa using t
    | succ i => simp only [List.eraseIdx_cons_succ]; exact .cons hk hv hb (ih i)

/-- What a look-up finds, told by the place. -/
def foundAt (es' : List MapEntry) (i : Nat) (r : Option (Nat × Value)) : Option (Nat × Value) :=
  r.map fun x => (x.1, ((es'[x.1 - i]?).map (·.val)).getD undef)

theorem findNow_rel {es es' : List MapEntry} (h : ERels φ es es') (hf : flatKeys es = true) (d : TypeDesc) (k : Value) : ∀ (i : Nat) {r : Option (Option (Nat × Value))},
    Instr.findNow d k (keyEntries es) i = r → Instr.findNow d k es' i = r.map (foundAt es' i) ∧ ∀ x, r = some (some x) → i ≤ x.1 := by
  induction h with
  | nil => intro i r hr; simp [keyEntries, Instr.findNow] at hr ⊢; subst hr; simp [foundAt]
  | @cons e e' l l' hk hv hb t ih =>
    intro i r hr
    simp [flatKeys] at hf
    have hkey := flat_eq hk hf.1
    simp only [keyEntries, Instr.findNow] at hr ⊢
    rw [hkey]
    cases hs : Instr.sameNow d k e.key with
    | none => rw [hs] at hr; simp at hr ⊢; subst hr; simp
    | some b =>
      rw [hs] at hr
      cases b with
      | true => simp at hr ⊢; subst hr; simp [foundAt]
      | false =>
        simp only at hr ⊢
        obtain ⟨h1, h2⟩ := ih hf.2 (i + 1) hr
        rw [h1]
        refine ⟨?_, fun x hx => by have := h2 x hx; omega⟩
        cases r with
        | none => rfl
        | some r =>
          cases r with
          | none => rfl
          | some x =>
            have := h2 x rfl
            simp only [Option.map_some, foundAt]
            rw [show x.1 - i = (x.1 - (i + 1)) + 1 by omega]
            simp

theorem findAsking_rel {es es' : List MapEntry} (h : ERels φ es es') (hf : flatKeys es = true) (kt : TypeId) (k : Value) : ∀ (i : Nat) {r : Option (Nat × Value)},
    pureVal P (Instr.findAsking kt k (keyEntries es) i) = some r → (Instr.findAsking kt k es' i).run P w = .ok (foundAt es' i r) w ∧ ∀ x, r = some x → i ≤ x.1 := by
  induction h with
  | nil => intro i r hr; simp [keyEntries, Instr.findAsking, pureVal_pure] at hr ⊢; subst hr; simp [foundAt]
  | @cons e e' l l' hk hv hb t ih =>
    intro i r hr
    simp [flatKeys] at hf
    have hkey := flat_eq hk hf.1
    simp only [keyEntries, Instr.findAsking, pureVal_bind] at hr ⊢
    rw [hkey]
    cases hs : pureVal P (Op.equal kt k e.key) with
    | none => rw [hs] at hr; cases hr
    | some b =>
      rw [hs] at hr
      have hrun := pureVal_run P _ hs w
      simp only [Sem.run_bind, hrun, Result.andThen_ok]
      cases b with
      | true =>
        simp [pureVal_pure] at hr ⊢; subst hr; simp [foundAt]
      | false =>
        simp only [Option.bind_some, Bool.false_eq_true, if_false] at hr ⊢
        obtain ⟨h1, h2⟩ := ih hf.2 (i + 1) hr
        rw [h1]
        refine ⟨?_, fun x hx => by have := h2 x hx; omega⟩
        cases r with
        | none => rfl
        | some x =>
          have := h2 x rfl
          simp only [foundAt, Option.map_some]
          rw [show x.1 - i = (x.1 - (i + 1)) + 1 by omega]
          simp

theorem findV_sound {empty : Bool} {kt : TypeId} {k : Value} {es es' : List MapEntry} {r : Option Nat} (h : findV P empty kt k es = some r) (hes : ERels φ es es') :
    flat k = true ∧ flatKeys es = true ∧ (Instr.checkKey empty 10000 kt k).run P w = .ok () w ∧
    (Instr.findKey kt k es').run P w = .ok (r.map fun i => (i, ((es'[i]?).map (·.val)).getD undef)) w := by
  unfold findV at h
  cases hc : (flat k && flatKeys es) with
  | false => rw [hc] at h; cases h
  | true =>
    rw [hc] at h
    simp only [cond_true] at h
    simp only [Bool.and_eq_true] at hc
    rw [pureVal_bind] at h
    cases hck : pureVal P (Instr.checkKey empty 10000 kt k) with
    | none => rw [hck] at h; cases h
    | some u =>
      rw [hck] at h
      simp only [Option.bind_some, pureVal_bind] at h
      refine ⟨hc.1, hc.2, pureVal_run P _ hck w, ?_⟩
      cases hfk : pureVal P (Instr.findKey kt k (keyEntries es)) with
      | none => rw [hfk] at h; cases h
      | some q =>
        rw [hfk] at h
        simp only [Option.bind_some, pureVal_pure, Option.some.injEq] at h
        have key : (Instr.findKey kt k es').run P w = .ok (foundAt es' 0 q) w := by
          unfold Instr.findKey at hfk ⊢
          rw [pureVal_bind, pureVal_under] at hfk
          cases hu : P.underlying kt with
          | none => rw [hu] at hfk; cases hfk
          | some d =>
            rw [hu] at hfk
            simp only [Option.bind_some] at hfk
            simp only [Sem.run_bind, run_under hu, Result.andThen_ok]
            cases hn : Instr.findNow d k (keyEntries es) 0 with
            | some r0 =>
              rw [hn] at hfk
              simp only [pureVal_pure, Option.some.injEq] at hfk
              subst hfk
              obtain ⟨g1, _⟩ := findNow_rel hes hc.2 d k 0 hn
              rw [g1]; simp
            | none =>
              rw [hn] at hfk
              simp only at hfk
              obtain ⟨g1, _⟩ := findNow_rel hes hc.2 d k 0 hn
              rw [g1]
              simp only [Option.map_none]
              exact (findAsking_rel hes hc.2 kt k 0 hfk).1
        rw [key, ← h]
        cases q with
        | none => rfl
        | some x => simp [foundAt]

def notCells : Obj → Bool
  | .cells _ _ _ => false
  | _ => true
theorem run_getObj {r : Nat} {o : Obj} (h : w.heap[r]? = some o) (hn : notCells o = true) : (getObj r).run P w = .ok o w := by
  cases o <;> simp_all [getObj, Sem.run, notCells]
theorem run_setObj {r : Nat} {o : Obj} (x : Obj) (h : w.heap[r]? = some o) (hn : notCells o = true) : (setObj r x).run P w = .ok () (w.putObj r x) := by
  cases o <;> simp_all [setObj, Sem.run, notCells, World.putObj]

/-- An object of one's own is laid anew. -/
theorem Rel.putObj (r : Rel P w0 base φ H w) {b : Nat} {pl : Pl} (h : φ b = some pl) (ho : (H.get b).own = true) (x : Blk) (o : Obj)
    (hx : (w.putObj pl.blk o).heap[pl.blk]? = some o → BRel φ base (w.putObj pl.blk o) pl x) : Rel P w0 base φ (H.put b x) (w.putObj pl.blk o) :=
  r.put h ho x rfl rfl rfl World.putObj_size (fun _ hk => World.putObj_heap_other hk) (hx (World.putObj_heap_same (r.live_size h (Blk.live_of_own ho))))

theorem Rel.mapAt (r : Rel P w0 base φ H w) {b : Nat} {pl : Pl} (h : φ b = some pl) {es : List MapEntry} {clock : Nat} (hg : H.get b = .map es clock) :
    base ≤ pl.blk ∧ ∃ es' : Array MapEntry, w.heap[pl.blk]? = some (.map es' clock) ∧ ERels φ es es'.toList := by
  have := r.blk b pl h
  rw [hg] at this
  exact this

theorem Rel.setMap (r : Rel P w0 base φ H w) {b : Nat} {pl : Pl} (h : φ b = some pl) {es : List MapEntry} {clock : Nat} (hg : H.get b = .map es clock) (es2 : List MapEntry) (es2' : Array MapEntry) (c2 : Nat) (he : ERels φ es2 es2'.toList) :
    Rel P w0 base φ (H.put b (.map es2 c2)) (w.putObj pl.blk (.map es2' c2)) :=
  r.putObj h (by rw [hg]; rfl) _ _ fun hh => ⟨(r.mapAt h hg).1, es2', hh, he⟩

theorem lookupV_sound (r : Rel P w0 base φ H w) {t : TypeId} {x x' k k' v : Value} {ok : Bool} (h : lookupV P H t x k ok = some v) (hx : VRel φ x x') (hk : VRel φ k k') :
    OkV P w0 base φ w (Instr.lookup t x' k' ok) v H := by
  unfold lookupV at h
  cases hu : P.underlying t with
  | none => rw [hu] at h; cases h
  | some d =>
    rw [hu] at h
    cases d <;> simp only at h <;> try cases h
    rename_i kt et
    have key : ∀ (es : List MapEntry) (es' : Array MapEntry) , ERels φ es es'.toList →
        (match findV P es.isEmpty kt k es with
          | some (some i) => match es[i]? with
            | some e => some (cond ok (.tuple #[e.val, .bool true]) e.val)
            | none => none
          | some none => match zeroT P et with
            | some z => some (cond ok (.tuple #[z, .bool false]) z)
            | none => none
          | none => none) = some v →
        ∃ v', VRel φ v v' ∧ (Instr.checkKey es'.isEmpty 10000 kt k').run P w = .ok () w ∧
          ((∃ i u, (Instr.findKey kt k' es'.toList).run P w = .ok (some (i, u)) w ∧ v' = cond ok (.tuple #[u, .bool true]) u) ∨
           (∃ z, (Instr.findKey kt k' es'.toList).run P w = .ok none w ∧ (zeroValue et).run P w = .ok z w ∧ v' = cond ok (.tuple #[z, .bool false]) z)) := by
      intro es es' hes hm
      have hemp : es'.isEmpty = es.isEmpty := by
        have := hes.length
        simp only [Array.length_toList] at this
        cases es <;> simp_all [Array.isEmpty]
      cases hf : findV P es.isEmpty kt k es with
      | none => rw [hf] at hm; cases hm
      | some q =>
        rw [hf] at hm
        obtain ⟨f1, f2, f3, f4⟩ := findV_sound (w := w) hf hes
        obtain rfl := flat_eq hk f1
        cases q with
        | some i =>
          simp only at hm
          cases he : es[i]? with
          | none => rw [he] at hm; cases hm
          | some e =>
            rw [he] at hm
            obtain ⟨e', g1, g2, g3, g4⟩ := hes.get he
            simp only [Option.some.injEq] at hm
            subst hm
            refine ⟨cond ok (.tuple #[e'.val, .bool true]) e'.val, ?_, by rw [hemp]; exact f3, .inl ⟨i, e'.val, by rw [f4]; simp only [Option.map_some, g1, Option.getD_some], rfl⟩⟩
            cases ok
            · exact g3
            · exact .tuple (.cons g3 (.cons (.bool _) .nil))
        | none =>
          simp only at hm
          cases hz : zeroT P et with
          | none => rw [hz] at hm; cases hm
          | some z =>
            rw [hz] at hm
            simp only [Option.some.injEq] at hm
            subst hm
            obtain ⟨_, _, _, hzf, _⟩ := zeroT_spec hz
            refine ⟨cond ok (.tuple #[z, .bool false]) z, ?_, by rw [hemp]; exact f3, .inr ⟨z, by rw [f4]; rfl, run_zero hz, rfl⟩⟩
            cases ok
            · exact .refl φ hzf
            · exact .tuple (.cons (.refl φ hzf) (.cons (.bool _) .nil))
    cases x <;> (try simp only at h) <;> try cases h
    rename_i mr
    cases mr with
    | none =>
      obtain rfl := hx.inv_mapNil
      obtain ⟨v', q1, q2, q3⟩ := key [] #[] .nil h
      refine .of_pure r (v' := v') ?_ q1
      rcases q3 with ⟨i, u, p1, rfl⟩ | ⟨z, p1, p2, rfl⟩ <;>
        simp only [Instr.lookup, Sem.run_bind, run_under hu, Result.andThen_ok, Sem.run_pure, q2, p1] <;> cases ok <;> simp [*]
    | some m =>
      obtain ⟨pl, hp, rfl⟩ := hx.inv_map
      simp only at h
      cases hg : H.get m with
      | map es clock =>
        rw [hg] at h
        obtain ⟨_, es', h1, h2⟩ := r.mapAt hp hg
        obtain ⟨v', q1, q2, q3⟩ := key es es' h2 h
        refine .of_pure r (v' := v') ?_ q1
        rcases q3 with ⟨i, u, p1, rfl⟩ | ⟨z, p1, p2, rfl⟩ <;>
          simp only [Instr.lookup, Sem.run_bind, run_under hu, Result.andThen_ok, Sem.run_pure, run_getObj h1 rfl, q2, p1] <;> cases ok <;> simp [*]
      | _ => rw [hg] at h; cases h

theorem ent_key {es : List MapEntry} {es' : Array MapEntry} (hes : ERels φ es es'.toList) (hf : flatKeys es = true) {i : Nat} {e : MapEntry} (he : es[i]? = some e) :
    ∃ e', es'[i]? = some e' ∧ e'.key = e.key ∧ flat e.key = true ∧ VRel φ e.val e'.val ∧ e'.born = e.born := by
  obtain ⟨e', g1, g2, g3, g4⟩ := hes.get he
  have hfl : flat e.key = true := by
    clear g1 g2 g3 g4 hes
    induction es generalizing i with
    | nil => simp at he
    | cons x xs ih =>
      simp [flatKeys] at hf
      cases i with
      | zero => simp at he; subst he; exact hf.1
      | succ i => simp at he; exact ih hf.2 he
  exact ⟨e', by simpa using g1, flat_eq g2 hfl, hfl, g3, g4⟩

theorem mapSet_sound (r : Rel P w0 base φ H w) {t : TypeId} {x x' k k' v v' : Value} {H' : Heap} (h : mapSet P H t x k v = some H') (hx : VRel φ x x') (hk : VRel φ k k') (hv : VRel φ v v') :
    OkU P w0 base φ w (Instr.mapUpdate t x' k' v') H' := by
  unfold mapSet at h
  split at h
  · rename_i kt et m hu
    obtain ⟨pl, hp, rfl⟩ := hx.inv_map
    split at h
    · rename_i es clock hg
      obtain ⟨hbase, es', h1, h2⟩ := r.mapAt hp hg
      split at h
      · rename_i i hf
        obtain ⟨f1, f2, f3, f4⟩ := findV_sound (w := w) hf h2
        obtain rfl := flat_eq hk f1
        cases he : es[i]? with
        | none => rw [he] at h; cases h
        | some e =>
          rw [he] at h
          simp only at h
          obtain ⟨e', g1, g2, g3, g4, g5⟩ := ent_key h2 f2 he
          cases hs : Instr.sameBits 10000 e.key k' with
          | false => rw [hs] at h; cases h
          | true =>
            rw [hs] at h
            simp only [cond_true, Option.some.injEq, forceL_eq] at h
            subst h
            refine ⟨φ, w.putObj pl.blk (.map (es'.modify i fun e => { e with key := k', val := v' }) clock), .refl φ, ?_, r.setMap hp hg _ _ _ ?_⟩
            · simp only [Instr.mapUpdate, Sem.run_bind, run_under hu, Result.andThen_ok, run_getObj h1 rfl, f3, f4]
              simp [g1, g2, Instr.keyThatStays, hs, run_setObj _ h1 rfl]
            · rw [Array.toList_modify]
              exact h2.modify i (fun _ _ _ _ hb => ⟨.refl φ f1, hv, hb⟩)
      · rename_i hf
        obtain ⟨f1, f2, f3, f4⟩ := findV_sound (w := w) hf h2
        obtain rfl := flat_eq hk f1
        simp only [Option.some.injEq, forceL_eq] at h
        subst h
        refine ⟨φ, w.putObj pl.blk (.map (es'.push { key := k', val := v', born := clock }) (clock + 1)), .refl φ, ?_, r.setMap hp hg _ _ _ ?_⟩
        · simp only [Instr.mapUpdate, Sem.run_bind, run_under hu, Result.andThen_ok, run_getObj h1 rfl, f3, f4]
          simp [run_setObj _ h1 rfl]
        · rw [Array.toList_push]
          exact h2.append (.cons (.refl φ f1) hv rfl .nil)
      · cases h
    · cases h
  · cases h

theorem mapEntryV_sound (r : Rel P w0 base φ H w) {t : TypeId} {x x' k k' : Value} {nx : Nx} (h : mapEntryV P H t x k = some nx) (hx : VRel φ x x') (hk : VRel φ k k') :
    OkNx P w0 base φ w (do pure (.value (← Instr.mapEntry t x' k'))) nx := by
  unfold mapEntryV at h
  split at h
  · rename_i kt et m hu
    obtain ⟨pl, hp, rfl⟩ := hx.inv_map
    split at h
    · rename_i es clock hg
      obtain ⟨hbase, es', h1, h2⟩ := r.mapAt hp hg
      split at h
      · rename_i i hf
        obtain ⟨f1, f2, f3, f4⟩ := findV_sound (w := w) hf h2
        obtain rfl := flat_eq hk f1
        cases he : es[i]? with
        | none => rw [he] at h; cases h
        | some e =>
          rw [he] at h
          simp only at h
          obtain ⟨e', g1, g2, g3, g4, g5⟩ := ent_key h2 f2 he
          cases hs : Instr.sameBits 10000 e.key k' with
          | false => rw [hs] at h; cases h
          | true =>
            rw [hs] at h
            simp only [cond_true, Option.some.injEq, forceL_eq] at h
            subst h
            refine OkV.nx ⟨φ, .tuple #[e'.val, goInt e'.born], w.putObj pl.blk (.map (es'.modify i fun e => { e with key := k' }) clock), .refl φ, ?_, .tuple (.cons g4 (.cons (by rw [g5]; exact .int _ _) .nil)), r.setMap hp hg _ _ _ ?_⟩
            · simp only [Instr.mapEntry, Sem.run_bind, run_under hu, Result.andThen_ok, run_getObj h1 rfl, f3, f4]
              simp [g1, g2, Instr.keyThatStays, hs, run_setObj _ h1 rfl]
            · rw [Array.toList_modify]
              exact h2.modify i (fun _ _ _ hv hb => ⟨.refl φ f1, hv, hb⟩)
      · rename_i hf
        obtain ⟨f1, f2, f3, f4⟩ := findV_sound (w := w) hf h2
        obtain rfl := flat_eq hk f1
        cases hz : zeroT P et with
        | none => rw [hz] at h; cases h
        | some z =>
          rw [hz] at h
          simp only [Option.some.injEq, forceL_eq] at h
          subst h
          obtain ⟨_, _, _, hzf, _⟩ := zeroT_spec hz
          refine OkV.nx ⟨φ, .tuple #[z, goInt clock], w.putObj pl.blk (.map (es'.push { key := k', val := z, born := clock }) (clock + 1)), .refl φ, ?_, .tuple (.cons (.refl φ hzf) (.cons (.int _ _) .nil)), r.setMap hp hg _ _ _ ?_⟩
          · simp only [Instr.mapEntry, Sem.run_bind, run_under hu, Result.andThen_ok, run_getObj h1 rfl, f3, f4]
            simp [run_zero hz, run_setObj _ h1 rfl]
          · rw [Array.toList_push]
            exact h2.append (.cons (.refl φ f1) (.refl φ hzf) rfl .nil)
      · cases h
    · cases h
  · cases h

theorem bornAt_spec {es es' : List MapEntry} (h : ERels φ es es') {n i : Nat} (hb : bornAt n es = some i) : es'.findIdx? (fun e => (e.born : Int) == (n : Int)) = some i := by
  induction h generalizing i with
  | nil => cases hb
  | @cons e e' l l' hk hv hbo t ih =>
    simp only [bornAt] at hb
    rw [List.findIdx?_cons, hbo]
    cases hc : Nat.beq e.born n with
    | true =>
      rw [hc] at hb
      have := Nat.eq_of_beq_eq_true hc
      simp at hb; subst hb; simp [this]
    | false =>
      rw [hc] at hb
      have hne : e.born ≠ n := fun q => by rw [q] at hc; simp at hc
      simp only [cond_false] at hb
      cases hq : bornAt n l with
      | none => rw [hq] at hb; cases hb
      | some j =>
        rw [hq] at hb
        simp at hb; subst hb
        rw [ih hq]
        have : ¬ ((e.born : Int) = (n : Int)) := by omega
        simp [this]

theorem entryStoreV_sound (r : Rel P w0 base φ H w) {t : TypeId} {x x' s s' v v' : Value} {H' : Heap} (h : entryStoreV H x s v = some H') (hx : VRel φ x x') (hs : VRel φ s s') (hv : VRel φ v v') :
    OkU P w0 base φ w (Instr.entryStore t x' s' v') H' := by
  unfold entryStoreV at h
  split at h
  · rename_i m n hn
    obtain ⟨kd, rfl⟩ := natV_spec hn
    obtain rfl := hs.inv_int
    obtain ⟨pl, hp, rfl⟩ := hx.inv_map
    split at h
    · rename_i es clock hg
      obtain ⟨hbase, es', h1, h2⟩ := r.mapAt hp hg
      split at h
      · rename_i i hb
        simp only [Option.some.injEq, forceL_eq] at h
        subst h
        have hfi : es'.findIdx? (fun e => (e.born : Int) == (n : Int)) = some i := by
          have e0 : es' = es'.toList.toArray := by simp
          rw [e0, List.findIdx?_toArray]; exact bornAt_spec h2 hb
        refine ⟨φ, w.putObj pl.blk (.map (es'.modify i fun e => { e with val := v' }) clock), .refl φ, ?_, r.setMap hp hg _ _ _ ?_⟩
        · simp [Instr.entryStore, run_getObj h1 rfl, asInt, asIntOf, hfi, run_setObj _ h1 rfl]
        · rw [Array.toList_modify]
          exact h2.modify i (fun _ _ hk' _ hb' => ⟨hk', hv, hb'⟩)
      · cases h
    · cases h
  · cases h

theorem deleteV_sound (r : Rel P w0 base φ H w) {ts : List TypeId} {t tt : TypeId} {x x' k k' : Value} {H' : Heap} (h : deleteV P H t x k = some H') (hx : VRel φ x x') (hk : VRel φ k k') :
    OkV P w0 base φ w (Builtin.delete_ (t :: ts).toArray tt #[x', k']) (.tuple #[]) H' := by
  unfold deleteV at h
  split at h
  · rename_i kt et hu
    obtain rfl := hx.inv_mapNil
    split at h
    · rename_i q hf
      cases h
      obtain ⟨f1, f2, f3, f4⟩ := findV_sound (φ := φ) (w := w) hf .nil
      obtain rfl := flat_eq hk f1
      exact .of_pure r (v' := .tuple #[]) (by simp [Builtin.delete_, run_under hu, f3]) (.tuple .nil)
    · cases h
  · rename_i kt et m hu
    obtain ⟨pl, hp, rfl⟩ := hx.inv_map
    split at h
    · rename_i es clock hg
      obtain ⟨hbase, es', h1, h2⟩ := r.mapAt hp hg
      have hemp : es'.isEmpty = es.isEmpty := by
        have := h2.length
        simp only [Array.length_toList] at this
        cases es <;> simp_all [Array.isEmpty]
      split at h
      · rename_i i hf
        obtain ⟨f1, f2, f3, f4⟩ := findV_sound (w := w) hf h2
        obtain rfl := flat_eq hk f1
        simp only [Option.some.injEq, forceL_eq] at h
        subst h
        refine ⟨φ, .tuple #[], w.putObj pl.blk (.map (es'.eraseIdxIfInBounds i) clock), .refl φ, ?_, .tuple .nil, r.setMap hp hg _ _ _ ?_⟩
        · simp [Builtin.delete_, run_under hu, run_getObj h1 rfl, hemp, f3, f4, run_setObj _ h1 rfl]
        · have : (es'.eraseIdxIfInBounds i).toList = es'.toList.eraseIdx i := by
            unfold Array.eraseIdxIfInBounds
            split
            · simp
            · rw [List.eraseIdx_of_length_le (by simp; omega)]
          rw [this]
          exact h2.eraseIdx i
      · rename_i hf
        cases h
        obtain ⟨f1, f2, f3, f4⟩ := findV_sound (w := w) hf h2
        obtain rfl := flat_eq hk f1
        have hsame : w.putObj pl.blk (.map es' clock) = w := by
          unfold World.putObj
          have : w.heap.setIfInBounds pl.blk (.map es' clock) = w.heap := by
            apply Array.ext_getElem?
            intro j
            rw [Array.getElem?_setIfInBounds]
            split
            · rename_i e; subst e; split
              · exact h1.symm
              · rename_i hh; rw [Array.getElem?_eq_none (by omega)]
            · rfl
          rw [this]
        refine ⟨φ, .tuple #[], w, .refl φ, ?_, .tuple .nil, r⟩
        simp [Builtin.delete_, run_under hu, run_getObj h1 rfl, hemp, f3, f4, run_setObj _ h1 rfl, hsame]
      · cases h
    · cases h
  · cases h

theorem newObj_sound (r : Rel P w0 base φ H w) (x : Blk) (o : Obj) (hx : ∀ φ', φ.le φ' → (w.alloc o).heap[w.heap.size]? = some o → BRel φ' base (w.alloc o) ⟨w.heap.size, 0, 0, 0, 0⟩ x) :
    ∃ φ', φ.le φ' ∧ φ' H.next = some ⟨w.heap.size, 0, 0, 0, 0⟩ ∧ (newObj o).run P w = .ok w.heap.size (w.alloc o) ∧ Rel P w0 base φ' (H.new x) (w.alloc o) :=
  ⟨φ.add H.next ⟨w.heap.size, 0, 0, 0, 0⟩, le_new r _, Emb.add_same _ _ _, rfl, r.new x o ⟨w.heap.size, 0, 0, 0, 0⟩ rfl (hx _ (le_new r _) (World.alloc_heap_new w o))⟩

theorem rangeV_sound (r : Rel P w0 base φ H w) {t : TypeId} {x x' : Value} {nx : Nx} (h : rangeV P H t x = some nx) (hx : VRel φ x x') :
    OkNx P w0 base φ w (do pure (.value (← Instr.range t x'))) nx := by
  unfold rangeV at h
  split at h
  · rename_i k e hu
    obtain rfl := hx.inv_mapNil
    cases h
    obtain ⟨φ', q1, q2, q3, q4⟩ := newObj_sound (P := P) r (.iter none 0 [] 0) (.mapIter none 0 #[] 0) (fun φ' _ hh => ⟨r.low, rfl, none, by simpa using hh, rfl⟩)
    refine OkV.nx ⟨φ', .pointer (some ⟨w.heap.size, 0, none⟩), _, q1, ?_, .ptr (o := 0) q2, q4⟩
    simp [Instr.range, run_under hu]
  · rename_i k e m hu
    obtain ⟨pl, hp, rfl⟩ := hx.inv_map
    split at h
    · rename_i es clock hg
      cases h
      obtain ⟨hbase, es', h1, h2⟩ := r.mapAt hp hg
      obtain ⟨φ', q1, q2, q3, q4⟩ := newObj_sound (P := P) r (.iter (some m) clock [] clock) (.mapIter (some pl.blk) clock #[] clock) (fun φ' hle hh => ⟨r.low, rfl, some pl.blk, by simpa using hh, pl, hle _ _ hp, rfl⟩)
      refine OkV.nx ⟨φ', .pointer (some ⟨w.heap.size, 0, none⟩), _, q1, ?_, .ptr (o := 0) q2, q4⟩
      simp [Instr.range, run_under hu, run_getObj h1 rfl]
    · cases h
  · cases h

theorem filter_rel {es es' : List MapEntry} (h : ERels φ es es') (f g : MapEntry → Bool) (hfg : ∀ e e' : MapEntry, e'.born = e.born → g e' = f e) : ERels φ (es.filter f) (es'.filter g) := by
  induction h with
  | nil => exact .nil
  | @cons e e' l l' hk hv hb t ih =>
    have := hfg e e' hb
    cases hc : f e with
    | true => rw [hc] at this; simp [hc, this]; exact .cons hk hv hb ih
    | false => rw [hc] at this; simp [hc, this]; exact ih
theorem all_rel {es es' : List MapEntry} (h : ERels φ es es') (f g : MapEntry → Bool) (hfg : ∀ e e' : MapEntry, e'.born = e.born → g e' = f e) : es'.all g = es.all f := by
  induction h with
  | nil => rfl
  | cons hk hv hb t ih => simp [hfg _ _ hb, ih]

theorem nextV_sound (r : Rel P w0 base φ H w) {t : TypeId} {it it' : Value} {nx : Nx} (h : nextV H it = some nx) (hx : VRel φ it it') :
    OkNx P w0 base φ w (do pure (.value (← Instr.next it' false t))) nx := by
  unfold nextV at h
  split at h
  · rename_i rb sp
    obtain ⟨hsp, pl, hp, rfl⟩ := hx.inv_ptr
    simp only at hp hsp
    have hb := r.blk _ pl hp
    split at h
    · rename_i since seen st hg
      rw [hg] at hb
      obtain ⟨hbase, hoff, m', h1, h2⟩ := hb
      simp only at h2
      subst h2
      cases h
      refine OkV.nx (.of_pure r (v' := .tuple #[.bool false]) ?_ (.tuple (.cons (.bool _) .nil)))
      simp [Instr.next, hoff, run_getObj h1 rfl]
    · rename_i m since seen last hg
      rw [hg] at hb
      obtain ⟨hbase, hoff, m', h1, q, hq, h2⟩ := hb
      subst h2
      split at h
      · rename_i es clock hgm
        obtain ⟨_, es', g1, g2⟩ := r.mapAt hq hgm
        have hemp : es'.isEmpty = es.isEmpty := by
          have := g2.length
          simp only [Array.length_toList] at this
          cases es <;> simp_all [Array.isEmpty]
        have hall : es'.all (fun e => decide (e.born ≥ last)) = es.all (fun e => Nat.ble last e.born) := by
          rw [← Array.all_toList]
          refine all_rel g2 _ _ (fun e e' he => ?_)
          rw [he]
          by_cases hc : last ≤ e.born
          · simp [hc, Nat.ble_eq_true_of_le]
          · have : Nat.ble last e.born = false := by
              cases hq : Nat.ble last e.born with
              | false => rfl
              | true => exact absurd (Nat.le_of_ble_eq_true hq) hc
            simp [hc, this]
        cases hc : (!seen.isEmpty && !es.isEmpty && es.all (fun e => Nat.ble last e.born)) with
        | true => rw [hc] at h; cases h
        | false =>
          rw [hc] at h
          simp only [cond_false] at h
          have hcond : (!seen.toArray.isEmpty && !es'.isEmpty && es'.all (fun e => decide (e.born ≥ last))) = false := by
            rw [hemp, hall, ← hc]; simp
          -- the candidates
          have hblt : ∀ a b : Nat, Nat.blt a b = decide (a < b) := by
            intro a b
            rw [Bool.eq_iff_iff, Nat.blt_eq]; simp
          have hold := filter_rel g2 (fun e => !seen.contains e.born && Nat.blt e.born since) (fun e => !seen.contains e.born && decide (e.born < since)) (fun e e' he => by rw [he, hblt])
          have hnew := filter_rel g2 (fun e => !seen.contains e.born && !Nat.blt e.born since) (fun e => !seen.contains e.born && decide (e.born ≥ since)) (fun e e' he => by
            rw [he, hblt]; congr 1; by_cases hh : e.born < since <;> simp [hh] <;> omega)
          have eold : ((es'.filter fun e => !seen.toArray.contains e.born).filter fun e => decide (e.born < since)).toList = es'.toList.filter (fun e => !seen.contains e.born && decide (e.born < since)) := by
            simp [Bool.and_comm]
          have enew : ((es'.filter fun e => !seen.toArray.contains e.born).filter fun e => decide (e.born ≥ since)).toList = es'.toList.filter (fun e => !seen.contains e.born && decide (e.born ≥ since)) := by
            simp [Bool.and_comm]
          rw [← eold] at hold
          rw [← enew] at hnew
          generalize hO : ((es'.filter fun e => !seen.toArray.contains e.born).filter fun e => decide (e.born < since)) = old' at hold
          generalize hN : ((es'.filter fun e => !seen.toArray.contains e.born).filter fun e => decide (e.born ≥ since)) = new' at hnew
          split at h
          · rename_i ho hn
            rw [ho] at hold
            rw [hn] at hnew
            have o0 : old' = #[] := by cases old'; cases hold; rfl
            have n0 : new' = #[] := by cases new'; cases hnew; rfl
            cases h
            refine OkV.nx (.of_pure r (v' := .tuple #[.bool false]) ?_ (.tuple (.cons (.bool _) .nil)))
            simp only [Instr.next, Sem.run_bind, hoff, Nat.add_zero, run_getObj h1 rfl, Result.andThen_ok, run_getObj g1 rfl, hcond, Bool.false_eq_true, if_false, hO, hN, o0, n0]
            simp [Question.forced]
          · rename_i e ho hn
            rw [ho] at hold
            rw [hn] at hnew
            have n0 : new' = #[] := by cases new'; cases hnew; rfl
            obtain ⟨e', o0, k1, k2, k3⟩ : ∃ e', old' = #[e'] ∧ VRel φ e.key e'.key ∧ VRel φ e.val e'.val ∧ e'.born = e.born := by
              obtain ⟨l⟩ := old'
              cases hold with
              | cons a b c d => cases d; exact ⟨_, rfl, a, b, c⟩
            simp only [Option.some.injEq] at h
            subst h
            have hown : (H.get rb).own = true := by rw [hg]; rfl
            refine OkV.nx ⟨φ, .tuple #[.bool true, e'.key, e'.val], w.putObj pl.blk (.mapIter (some q.blk) since (seen.toArray.push e'.born) clock), .refl φ, ?_, .tuple (.cons (.bool _) (.cons k1 (.cons k2 .nil))), ?_⟩
            · simp only [Instr.next, Sem.run_bind, hoff, Nat.add_zero, run_getObj h1 rfl, Result.andThen_ok, run_getObj g1 rfl, hcond, Bool.false_eq_true, if_false, hO, hN, o0, n0]
              simp [Question.forced, run_setObj _ h1 rfl]
            · exact r.putObj hp hown _ _ fun hh => ⟨hbase, hoff, some q.blk, by rw [hh, k3]; simp, q, hq, rfl⟩
          · cases h
      · cases h
    · cases h
  · cases h

theorem bornFirst_rel {es es' : List MapEntry} (h : ERels φ es es') {s : Nat} {e : MapEntry} (hb : bornFirst s es = some e) : ∃ e', es'.find? (fun e => e.born == s) = some e' ∧ VRel φ e.key e'.key ∧ VRel φ e.val e'.val := by
  induction h with
  | nil => cases hb
  | @cons x x' l l' hk hv hbn t ih =>
    simp only [bornFirst] at hb
    simp only [List.find?]
    cases hc : Nat.beq x.born s with
    | true =>
      rw [hc] at hb
      simp only [cond_true, Option.some.injEq] at hb
      subst hb
      have : (x'.born == s) = true := by rw [hbn]; simpa using Nat.eq_of_beq_eq_true hc
      rw [this]
      exact ⟨x', rfl, hk, hv⟩
    | false =>
      rw [hc] at hb
      have : (x'.born == s) = false := by
        rw [hbn]
        cases hq : x.born == s with
        | false => rfl
        | true => rw [beq_iff_eq] at hq; subst hq; simp at hc
      rw [this]
      exact ih hb

theorem entryV_sound (r : Rel P w0 base φ H w) {it it' v : Value} (h : entryV H it = some v) (hx : VRel φ it it') : OkV P w0 base φ w (Instr.entry it') v H := by
  unfold entryV at h
  split at h
  · rename_i rb sp
    obtain ⟨hsp, pl, hp, rfl⟩ := hx.inv_ptr
    simp only at hp hsp
    have hb := r.blk _ pl hp
    split at h
    · rename_i m since seen stepped hg
      rw [hg] at hb
      obtain ⟨hbase, hoff, m', h1, q, hq, h2⟩ := hb
      subst h2
      split at h
      · rename_i es clock s hgm hl
        obtain ⟨_, es', g1, g2⟩ := r.mapAt hq hgm
        have h := h
        cases hc : Nat.beq clock stepped with
        | false => rw [hc] at h; cases h
        | true =>
          rw [hc] at h
          have hcs := Nat.eq_of_beq_eq_true hc
          simp only [cond_true] at h
          cases hf : bornFirst s es with
          | none => rw [hf] at h; cases h
          | some e =>
            rw [hf] at h
            simp only [Option.some.injEq] at h
            subst h
            obtain ⟨e', p1, p2, p3⟩ := bornFirst_rel g2 hf
            refine .of_pure r (v' := .tuple #[e'.key, e'.val]) ?_ (.tuple (.cons p2 (.cons p3 .nil)))
            have hbk : seen.toArray.back? = some s := by simpa using hl
            have hfa : es'.find? (fun e => e.born == s) = some e' := by rw [← Array.find?_toList]; exact p1
            simp only [Instr.entry, Sem.run_bind, hoff, Nat.add_zero, run_getObj h1 rfl, Result.andThen_ok, hbk, run_getObj g1 rfl, hcs, bne_self_eq_false, Bool.false_eq_true, if_false, hfa, Sem.run_pure]
      · cases h
    · cases h
  · cases h

end
end Go.Eng
