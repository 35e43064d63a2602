/- The engine, part 21: tables of what is known of cells that are not known; a call that is carried out under such tables. -/
import Derived.Test.YtkfkpiphbflokaaGreatDoorEJ
namespace Go.Eng
open Go.RowKit (Below)
set_option linter.unusedSectionVars false
variable [Sig]

/-! ### What a value with unknown cells stands for -/
def inst0 : Value → Value
  | .chan (some n) => Sig.val (n / 2)
  | v => v
def inst : Value → Value
  | .agg c => .agg (c.toList.map inst0).toArray
  | .tuple c => .tuple (c.toList.map inst0).toArray
  | v => inst0 v
def symOnly0 : Value → Bool
  | .chan (some n) => Nat.beq (n % 2) 1
  | v => flat0 v
def symOnly : Value → Bool
  | .agg c => c.toList.all symOnly0
  | .tuple c => c.toList.all symOnly0
  | v => symOnly0 v

theorem inst0_flat {v : Value} (h : flat0 v = true) : inst0 v = v := by
  unfold inst0
  split
  · simp [flat0] at h
  · rfl
theorem inst0_eq {φ : Emb} {v v' : Value} (h : VRel φ v v') (hs : symOnly0 v = true) : v' = inst0 v := by
  unfold symOnly0 at hs
  split at hs
  · cases h with
    | sym b => show Sig.val b = Sig.val ((2 * b + 1) / 2); congr 1; omega
    | psym b h => exfalso; have := Nat.eq_of_beq_eq_true hs; omega
    | hsl b h => exfalso; have := Nat.eq_of_beq_eq_true hs; omega
    | any h => simp at hs
  · rw [inst0_flat hs]; exact flat0_eq h hs
theorem inst0s_eq {φ : Emb} : ∀ {l l' : List Value}, VRels φ l l' → l.all symOnly0 = true → l' = l.map inst0
  | [], _, .nil, _ => rfl
  | x :: xs, _, .cons hv ht, h => by
    simp only [List.all_cons, Bool.and_eq_true] at h
    rw [inst0_eq hv h.1, inst0s_eq ht h.2]; rfl
theorem inst_eq {φ : Emb} {v v' : Value} (h : VRel φ v v') (hs : symOnly v = true) : v' = inst v := by
  cases h with
  | agg h => rename_i c c'; have := inst0s_eq h (by simpa [symOnly] using hs); show Value.agg c' = .agg _; rw [← this]
  | tuple h => rename_i c c'; have := inst0s_eq h (by simpa [symOnly] using hs); show Value.tuple c' = .tuple _; rw [← this]
  | sym b => exact inst0_eq (φ := φ) (.sym b) hs
  | psym b h => exact inst0_eq (φ := φ) (.psym b h) hs
  | hsl b h => exact inst0_eq (φ := φ) (.hsl b h) hs
  | bool b => rfl
  | int k n => rfl
  | float k n => rfl
  | complex k n m => rfl
  | string s => rfl
  | ptrNil => rfl
  | ptr h => exact inst0_eq (.ptr h) hs
  | sliceNil => rfl
  | slice a b c d => exact inst0_eq (.slice a b c d) hs
  | mapNil => rfl
  | map h => exact inst0_eq (.map h) hs
  | chanNil => rfl
  | func a b c => exact inst0_eq (.func a b c) hs
  | nilFunc => rfl
  | iface h => exact inst0_eq (.iface h) hs
  | nilIface => rfl
  | any h => exact inst0_eq (φ := φ) (.any h) hs
theorem insts_eq {φ : Emb} : ∀ {l l' : List Value}, VRels φ l l' → l.all symOnly = true → l' = l.map inst
  | [], _, .nil, _ => rfl
  | x :: xs, _, .cons hv ht, h => by
    simp only [List.all_cons, Bool.and_eq_true] at h
    rw [inst_eq hv h.1, insts_eq ht h.2]; rfl
theorem inst0_rel (φ : Emb) {v : Value} (hs : symOnly0 v = true) : VRel φ v (inst0 v) := by
  unfold symOnly0 at hs
  split at hs
  · rename_i n
    have := Nat.eq_of_beq_eq_true hs
    have e : VRel φ (.chan (some (2 * (n / 2) + 1))) (Sig.val (n / 2)) := .sym _
    rw [show 2 * (n / 2) + 1 = n by omega] at e
    exact e
  · rw [inst0_flat hs]; exact .refl0 φ hs
theorem inst0s_rel (φ : Emb) : ∀ {l : List Value}, l.all symOnly0 = true → VRels φ l (l.map inst0)
  | [], _ => .nil
  | x :: xs, h => by
    simp only [List.all_cons, Bool.and_eq_true] at h
    exact .cons (inst0_rel φ h.1) (inst0s_rel φ h.2)
theorem inst_rel (φ : Emb) {v : Value} (hs : symOnly v = true) : VRel φ v (inst v) := by
  cases v with
  | agg c => exact .agg (inst0s_rel φ (by simpa [symOnly] using hs))
  | tuple c => exact .tuple (inst0s_rel φ (by simpa [symOnly] using hs))
  | _ => exact inst0_rel φ hs
theorem insts_rel (φ : Emb) : ∀ {l : List Value}, l.all symOnly = true → VRels φ l (l.map inst)
  | [], _ => .nil
  | x :: xs, h => by
    simp only [List.all_cons, Bool.and_eq_true] at h
    exact .cons (inst_rel φ h.1) (insts_rel φ h.2)

/-! ### Tables -/
structure Key where
  op : BinOp
  xt : TypeId
  a : Value
  b : Value
def sameOp (x y : BinOp) : Bool := Nat.beq x.ctorIdx y.ctorIdx
theorem sameOp_eq {x y : BinOp} (h : sameOp x y = true) : x = y := by
  have := Nat.eq_of_beq_eq_true h
  cases x <;> cases y <;> first | rfl | (simp [BinOp.ctorIdx] at this)
def Key.is (k : Key) (op : BinOp) (xt : TypeId) (a b : Value) : Bool := sameOp k.op op && (Nat.beq k.xt xt && (sameV k.a a && sameV k.b b))

def binTab : List (Key × Value) → BinOp → TypeId → Value → Value → Option Value
  | [], _, _, _, _ => none
  | (k, v) :: l, op, xt, a, b => cond (k.is op xt a b) (some v) (binTab l op xt a b)

def KeyOK (P : Program) (k : Key) (v : Value) : Prop := ∀ (x y : Operand) (w : World), (do eqGuard k.op k.xt x y (inst k.a) (inst k.b); binOp k.op k.xt (inst k.a) (inst k.b)).run P w = .ok (inst v) w
def Key.fine (k : Key) : Bool := symOnly k.a && symOnly k.b

theorem binTab_ok {P : Program} {l : List (Key × Value)} (hl : ∀ e ∈ l, e.1.fine = true ∧ symOnly e.2 = true ∧ KeyOK P e.1 e.2) : BinOK P (binTab l) := by
  induction l with
  | nil => intro op xt a b u h; cases h
  | cons kv l ih =>
    obtain ⟨k, v⟩ := kv
    intro op xt a b u h φ a' b' ha hb x y w
    simp only [binTab] at h
    cases hk : k.is op xt a b with
    | false => rw [hk] at h; exact ih (fun e he => hl e (List.mem_cons_of_mem _ he)) h ha hb x y w
    | true =>
      rw [hk] at h
      simp only [cond_true, Option.some.injEq] at h
      subst h
      simp only [Key.is, Bool.and_eq_true] at hk
      obtain ⟨h1, h2, h3, h4⟩ := hk
      obtain ⟨f1, f2, f3⟩ := hl (k, v) (List.mem_cons_self ..)
      simp only [Key.fine, Bool.and_eq_true] at f1
      have e1 := sameOp_eq h1
      have e2 := Nat.eq_of_beq_eq_true h2
      have e3 := sameV_eq h3
      have e4 := sameV_eq h4
      subst e1 e2
      rw [← e3] at ha
      rw [← e4] at hb
      rw [inst_eq ha f1.1, inst_eq hb f1.2]
      exact ⟨inst v, f3 x y w, inst_rel φ f2⟩

/-- Calls of which it is known what they answer. -/
def hookTab : List (List Value × Value) → List Value → Option Value
  | [], _ => none
  | (k, v) :: l, args => cond (sameL sameV k args) (some v) (hookTab l args)
def CallOK (P : Program) (f : FuncId) (args : List Value) (v : Value) : Prop := ∀ w, Below Sig.lim Sig.old w → Calls P f (args.map inst).toArray w (fun e w' => ∃ v', (∀ φ, VRel φ v v') ∧ e = .returned v' ∧ Below w.heap.size w w')
theorem CallOK.of {P : Program} {f : FuncId} {args : List Value} {v : Value} (hv : symOnly v = true) (h : ∀ w, Below Sig.lim Sig.old w → Calls P f (args.map inst).toArray w (fun e w' => e = .returned (inst v) ∧ Below w.heap.size w w')) : CallOK P f args v :=
  fun w hw => (h w hw).mono fun _ _ ⟨h1, h2⟩ => ⟨inst v, fun φ => inst_rel φ hv, h1, h2⟩

def HookOK (P : Program) (f : FuncId) (g : List Value → Option Value) : Prop := ∀ {args : List Value} {v : Value}, g args = some v → ∀ {φ : Emb} {args' : List Value}, VRels φ args args' → ∀ w, Below Sig.lim Sig.old w → Calls P f args'.toArray w (fun e w' => ∃ v', VRel φ v v' ∧ e = .returned v' ∧ Below w.heap.size w w')
theorem hookTab_ok {P : Program} {f : FuncId} {l : List (List Value × Value)} (hl : ∀ e ∈ l, e.1.all symOnly = true ∧ CallOK P f e.1 e.2) : HookOK P f (hookTab l) := by
  induction l with
  | nil => intro args v h; cases h
  | cons kv l ih =>
    obtain ⟨k, v⟩ := kv
    intro args u h φ args' ha
    simp only [hookTab] at h
    cases hk : sameL sameV k args with
    | false => rw [hk] at h; exact ih (fun e he => hl e (List.mem_cons_of_mem _ he)) h ha
    | true =>
      rw [hk] at h
      simp only [cond_true, Option.some.injEq] at h
      subst h
      obtain ⟨f1, f3⟩ := hl (k, v) (List.mem_cons_self ..)
      have e := sameL_eq (fun a b => sameV_eq) hk
      rw [← e] at ha
      rw [insts_eq ha f1]
      intro w hw
      exact (f3 w hw).mono fun _ _ ⟨v', h1, h2⟩ => ⟨v', h1 φ, h2⟩

/-- Operations of one or two operands of which it is known what they come to. -/
inductive UTest where
  | len (t : TypeId)
  | conv (src dst : TypeId)
  | at (t : TypeId)
  | load (t : TypeId)
def UTest.is (k : UTest) (op : Op) : Bool :=
  match k, op with
  | .len t, .call c => (match c.callee with
    | .builtin .len => sameNats c.argTypes.toList [t]
    | _ => false)
  | .conv s d, .convert s' d' _ => Nat.beq s s' && Nat.beq d d'
  | .at t, .indexAddr t' _ _ => Nat.beq t t'
  | .load t, .load t' _ => Nat.beq t t'
  | _, _ => false
where sameNats : List Nat → List Nat → Bool
  | [], [] => true
  | a :: as, b :: bs => Nat.beq a b && sameNats as bs
  | _, _ => false
theorem sameNats_eq : ∀ {a b : List Nat}, UTest.is.sameNats a b = true → a = b
  | [], [], _ => rfl
  | [], _ :: _, h => by simp [UTest.is.sameNats] at h
  | _ :: _, [], h => by simp [UTest.is.sameNats] at h
  | x :: xs, y :: ys, h => by
    simp only [UTest.is.sameNats, Bool.and_eq_true] at h
    rw [Nat.eq_of_beq_eq_true h.1, sameNats_eq h.2]

def unTab : List ((UTest × List Value) × Value) → Op → List Value → Option Value
  | [], _, _ => none
  | ((k, vs), v) :: l, op, args => cond (k.is op && sameL sameV vs args) (some v) (unTab l op args)

def UKeyOK (P : Program) (k : UTest) (vs : List Value) (v : Value) : Prop := ∀ {op : Op} {xs : List Operand}, unOps op = some xs → k.is op = true → ∀ {φ : Emb} {vs' : List Value}, VRels φ vs vs' → ∀ (e : Operand → Value), xs.map e = vs' → ∀ (o : Oper), o.op = op → ∀ (w : World), Below Sig.lim Sig.old w → (execOp e o).run P w = .ok (.value (inst v)) w

theorem unTab_ok {P : Program} {l : List ((UTest × List Value) × Value)} (hl : ∀ e ∈ l, symOnly e.2 = true ∧ UKeyOK P e.1.1 e.1.2 e.2) : UnOK P (unTab l) := by
  induction l with
  | nil => intro op xs vs v hx h; cases h
  | cons kv l ih =>
    obtain ⟨⟨k, vs⟩, v⟩ := kv
    intro op xs args u hx h φ args' ha e hxs o ho w hw
    simp only [unTab] at h
    cases hk : (k.is op && sameL sameV vs args) with
    | false => rw [hk] at h; exact ih (fun e he => hl e (List.mem_cons_of_mem _ he)) hx h ha e hxs o ho w hw
    | true =>
      rw [hk] at h
      simp only [cond_true, Option.some.injEq] at h
      subst h
      simp only [Bool.and_eq_true] at hk
      obtain ⟨f2, f3⟩ := hl ((k, vs), v) (List.mem_cons_self ..)
      have e1 := sameL_eq (fun a b => sameV_eq) hk.2
      rw [← e1] at ha
      exact ⟨inst v, f3 hx hk.1 ha e hxs o ho w hw, inst_rel φ f2⟩

theorem ukey_len {P : Program} {t : TypeId} {vs : List Value} {x v : Value} (hvs : vs = [x]) (h : ∀ φ x', VRel φ x x' → ∀ w, Below Sig.lim Sig.old w → (Builtin.len_ #[t] 0 #[x']).run P w = .ok (inst v) w) : UKeyOK P (.len t) vs v := by
  subst hvs
  intro op xs hx hk φ vs' hr e hxs o ho w hw
  cases op <;> try (simp [UTest.is] at hk; done)
  rename_i c
  simp only [UTest.is] at hk
  obtain ⟨callee, cargs, cts⟩ := c
  simp only at hk
  split at hk
  · have ht := sameNats_eq hk
    simp only [unOps, Option.some.injEq] at hx
    subst hx
    match vs', hr with
    | [x'], .cons hv .nil =>
      have hmap : cargs.map e = #[x'] := by rw [← Array.toList_inj]; simpa using hxs
      have htt : cts = #[t] := by rw [← Array.toList_inj]; simpa using ht
      subst htt
      have hl : ∀ ty, Builtin.len_ #[t] ty #[x'] = Builtin.len_ #[t] 0 #[x'] := fun _ => rfl
      unfold execOp
      rw [ho]
      simp only [resolve, hmap, pure_bind, invoke, builtin, hl, Sem.run_bind, h φ x' hv w hw, Result.andThen_ok, Sem.run_pure]
  · cases hk

theorem ukey_conv {P : Program} {s d : TypeId} {vs : List Value} {x v : Value} (hvs : vs = [x]) (h : ∀ φ x', VRel φ x x' → ∀ w, Below Sig.lim Sig.old w → (convert s d x').run P w = .ok (inst v) w) : UKeyOK P (.conv s d) vs v := by
  subst hvs
  intro op xs hx hk φ vs' hr e hxs o ho w hw
  cases op <;> try (simp [UTest.is] at hk; done)
  rename_i s' d' y
  simp only [UTest.is, Bool.and_eq_true] at hk
  have e1 := Nat.eq_of_beq_eq_true hk.1
  have e2 := Nat.eq_of_beq_eq_true hk.2
  subst e1 e2
  simp only [unOps, Option.some.injEq] at hx
  subst hx
  match vs', hr with
  | [x'], .cons hv .nil =>
    simp only [List.map_cons, List.map_nil, List.cons.injEq, and_true] at hxs
    unfold execOp
    rw [ho]
    simp only [hxs, Sem.run_bind, h φ x' hv w hw, Result.andThen_ok, Sem.run_pure]

/-- Lengths. -/
theorem ukey_len_str {P : Program} {t : TypeId} {vs : List Value} {x v : Value} {s : ByteArray} (hvs : vs = [x]) (ht : P.underlying t = some .string) (hx : symOnly x = true) (hs : inst x = .string s) (hv : inst v = .int .i64 s.size) : UKeyOK P (.len t) vs v :=
  ukey_len hvs fun φ x' hr w _ => by rw [inst_eq hr hx, hs, hv]; simp [Builtin.len_, run_under ht]; rfl
theorem ukey_len_slice {P : Program} {t e : TypeId} {vs : List Value} {x v : Value} {n : Nat} (hvs : vs = [x]) (ht : P.underlying t = some (.slice e)) (hx : ∀ φ x', VRel φ x x' → ∃ a c, x' = .slice a n c) (hv : inst v = .int .i64 n) : UKeyOK P (.len t) vs v :=
  ukey_len hvs fun φ x' hr w _ => by obtain ⟨a, c, rfl⟩ := hx φ x' hr; rw [hv]; simp [Builtin.len_, run_under ht]; rfl

theorem ukey_at {P : Program} {t : TypeId} {vs : List Value} {x i v : Value} (hvs : vs = [x, i]) (hx : symOnly x = true) (hi : symOnly i = true) (h : ∀ w, (Instr.indexAt t (inst x) (inst i)).run P w = .ok (inst v) w) : UKeyOK P (.at t) vs v := by
  subst hvs
  intro op xs hxs0 hk φ vs' hr e hxs o ho w _
  cases op <;> try (simp [UTest.is] at hk; done)
  rename_i t' y z
  have e1 := Nat.eq_of_beq_eq_true hk
  subst e1
  simp only [unOps, Option.some.injEq] at hxs0
  subst hxs0
  match vs', hr with
  | [x', i'], .cons hv (.cons hv2 .nil) =>
    simp only [List.map_cons, List.map_nil, List.cons.injEq, and_true] at hxs
    unfold execOp
    rw [ho]
    simp only [hxs.1, hxs.2, inst_eq hv hx, inst_eq hv2 hi, Sem.run_bind, h w, Result.andThen_ok, Sem.run_pure]
theorem ukey_load {P : Program} {t : TypeId} {vs : List Value} {x v : Value} (hvs : vs = [x]) (hx : symOnly x = true) (h : ∀ w, Below Sig.lim Sig.old w → (Instr.loadAt t (inst x)).run P w = .ok (inst v) w) : UKeyOK P (.load t) vs v := by
  subst hvs
  intro op xs hxs0 hk φ vs' hr e hxs o ho w hw
  cases op <;> try (simp [UTest.is] at hk; done)
  rename_i t' y
  have e1 := Nat.eq_of_beq_eq_true hk
  subst e1
  simp only [unOps, Option.some.injEq] at hxs0
  subst hxs0
  match vs', hr with
  | [x'], .cons hv .nil =>
    simp only [List.map_cons, List.map_nil, List.cons.injEq, and_true] at hxs
    unfold execOp
    rw [ho]
    simp only [hxs, inst_eq hv hx, Sem.run_bind, h w hw, Result.andThen_ok, Sem.run_pure]

/-! ### A call under tables -/
/-- The call, with its result's cells as they are. -/
theorem run_calls {P : Program} {l : List (FuncId × Ext)} (hl : PrimsOK P l) {bn : BinOp → TypeId → Value → Value → Option Value} (hbn : BinOK P bn) {un : Op → List Value → Option Value} (hun : UnOK P un) (hmix : P.follows .mixedOrders = true) {n : Nat} {f : FuncId} {fn : Func}
    (hf : P.funcs[f]? = some fn) (hpr : prims P l f = none) {args : List Value} {v : Value} {H' : Heap} (h : (hands P (prims P l) bn un (n + 1)).call f args (start P) = some (v, H')) (hv : symOnly v = true) (ha : args.all symOnly = true) (w : World) (hw : Below Sig.lim Sig.old w) (hlim : Sig.lim ≤ w.heap.size) :
    Calls P f (args.map inst).toArray w (fun e w' => e = .returned (inst v) ∧ Below w.heap.size w w') := by
  simp only [hands, hpr, hf] at h
  have ih := hands_ok hl hbn hun hmix n
  have hdr := drawV_sound ih hmix
  obtain ⟨_, q⟩ := funcV_sound ih hdr hf h (start_rel P w hw hlim) (insts_rel _ ha) 0 (fun e w' => e = .returned (inst v) ∧ Below w.heap.size w w') (fun φ' v' w' _ hvr r => ⟨by rw [inst_eq hvr hv], r.below⟩)
  exact callsIn_wide.1 q

/-! ### Answers of runs -/
def ansIs (x : Option (Value × Heap)) (v : Value) : Bool :=
  match x with
  | some (u, _) => sameV u v
  | none => false
theorem ansIs_spec {x : Option (Value × Heap)} {v : Value} (h : ansIs x v = true) : ∃ H', x = some (v, H') := by
  unfold ansIs at h
  split at h
  · rw [sameV_eq h]; exact ⟨_, rfl⟩
  · cases h

/-- All lists of so many bools. -/
def allB : Nat → List (List Bool)
  | 0 => [[]]
  | n + 1 => (allB n).flatMap fun l => [false :: l, true :: l]
theorem mem_allB : ∀ {l : List Bool}, l ∈ allB l.length
  | [] => by simp [allB]
  | b :: l => by
    simp only [List.length_cons, allB, List.mem_flatMap]
    exact ⟨l, mem_allB, by cases b <;> simp⟩
theorem all_at {n : Nat} {p : List Bool → Bool} (h : (allB n).all p = true) {l : List Bool} (hl : l.length = n) : p l = true := by
  subst hl
  exact List.all_eq_true.1 h l mem_allB
end Go.Eng
