/- The engine, part 22: decision trees: what a call comes to, by the answers to questions on cells that are not known. -/
import Derived.Test.YtkfkpiphbflokaaGreatDoorEK
namespace Go.Eng
open Go.RowKit (Below)
set_option linter.unusedSectionVars false

/-- By the answers to numbered questions. -/
inductive DT where
  | leaf (v : Value)
  | ask (i : Nat) (no yes : DT)
def DT.eval (β : Nat → Bool) : DT → Value
  | .leaf v => v
  | .ask i no yes => cond (β i) (yes.eval β) (no.eval β)

/-- The questions: comparisons (the number; as it is, or turned), calls that answer a bool; and what is known for certain. -/
structure Qs where
  bins : List (Key × Nat × Bool)
  calls : List (FuncId × List Value × Nat)
  fixB : List (Key × Value)
  fixC : List (FuncId × List Value × Value)
  fixU : List ((UTest × List Value) × Value)
  exts : List (FuncId × Ext)

def allOf {α : Type} (p : α → Prop) : List α → Prop
  | [] => True
  | x :: xs => p x ∧ allOf p xs
theorem allOf_mem {α : Type} {p : α → Prop} : ∀ {l : List α}, allOf p l → ∀ x ∈ l, p x
  | [], _, _, h => by cases h
  | y :: ys, h, x, hx => by
    rcases List.mem_cons.1 hx with rfl | hx
    · exact h.1
    · exact allOf_mem h.2 x hx

abbrev Acc := List (Nat × Bool)
def Acc.get : Acc → Nat → Option Bool
  | [], _ => none
  | (i, b) :: l, j => cond (Nat.beq i j) (some b) (Acc.get l j)

def binsOf : List (Key × Nat × Bool) → Acc → List (Key × Value) → List (Key × Value)
  | [], _, l => l
  | (k, i, pol) :: bs, acc, l => match acc.get i with
    | some b => (k, .bool (cond pol b (!b))) :: binsOf bs acc l
    | none => binsOf bs acc l
def callsOf (f : FuncId) : List (FuncId × List Value × Nat) → Acc → List (List Value × Value)
  | [], _ => []
  | (g, args, i) :: cs, acc => match acc.get i with
    | some b => cond (Nat.beq g f) ((args, .bool b) :: callsOf f cs acc) (callsOf f cs acc)
    | none => callsOf f cs acc
def fixesOf (f : FuncId) : List (FuncId × List Value × Value) → List (List Value × Value)
  | [] => []
  | (g, args, v) :: cs => cond (Nat.beq g f) ((args, v) :: fixesOf f cs) (fixesOf f cs)
def Qs.hooked (q : Qs) : List FuncId := q.calls.map (·.1) ++ q.fixC.map (·.1)
def Qs.primsL (q : Qs) (acc : Acc) : List (FuncId × Ext) := q.exts ++ q.hooked.map fun f => (f, .hook (hookTab (callsOf f q.calls acc ++ fixesOf f q.fixC)))
def Qs.run (P : Program) (q : Qs) (acc : Acc) (n : Nat) (f : FuncId) (args : List Value) : Option (Value × Heap) :=
  (hands P (prims P (q.primsL acc)) (binTab (binsOf q.bins acc q.fixB)) (unTab q.fixU) (n + 1)).call f args (start P)

def checkT (P : Program) (q : Qs) (n : Nat) (f : FuncId) (args : List Value) : DT → Acc → Bool
  | .leaf v, acc => ansIs (q.run P acc n f args) v
  | .ask i no yes, acc => checkT P q n f args no ((i, false) :: acc) && checkT P q n f args yes ((i, true) :: acc)
def DT.fine : DT → Bool
  | .leaf v => symOnly v
  | .ask _ no yes => no.fine && yes.fine

/-- Cells that are known by a list. -/
@[reducible] def sigOf (vals : List Value) (h : vals.all Value.oneCell' = true) (pr : Nat → Value → Prop) (hp : ∀ b v, pr b v → v.oneCell' = true) (old : World) (lim : Nat) : Sig where
  val i := vals.getD i (.bool false)
  one b := by
    rw [List.getD_eq_getElem?_getD]
    cases e : vals[b]? with
    | none => rfl
    | some v => exact List.all_eq_true.1 h v (List.mem_of_getElem? e)
  pr := pr
  pone := hp
  rows _ := []
  old := old
  lim := lim
/-- The same; the rows are told. -/
@[reducible] def sigR (S : Sig) (rows : Nat → List Value) : Sig := { S with rows := rows }

variable [Sig]

structure QsOK (P : Program) (q : Qs) (β : Nat → Bool) : Prop where
  bins : ∀ e ∈ q.bins, e.1.fine = true ∧ KeyOK P e.1 (.bool (cond e.2.2 (β e.2.1) (!β e.2.1)))
  calls : ∀ e ∈ q.calls, e.2.1.all symOnly = true ∧ (∃ fn, P.funcs[e.1]? = some fn ∧ (fn.name == "runtime.NumGoroutine") = false ∧ fn.body.isNone = false) ∧ CallOK P e.1 e.2.1 (.bool (β e.2.2))
  fixB : ∀ e ∈ q.fixB, e.1.fine = true ∧ symOnly e.2 = true ∧ KeyOK P e.1 e.2
  fixC : ∀ e ∈ q.fixC, e.2.1.all symOnly = true ∧ (∃ fn, P.funcs[e.1]? = some fn ∧ (fn.name == "runtime.NumGoroutine") = false ∧ fn.body.isNone = false) ∧ CallOK P e.1 e.2.1 e.2.2
  fixU : ∀ e ∈ q.fixU, symOnly e.2 = true ∧ UKeyOK P e.1.1 e.1.2 e.2
  exts : PrimsOK P q.exts

def Acc.fits (acc : Acc) (β : Nat → Bool) : Prop := ∀ i b, acc.get i = some b → β i = b

theorem binsOf_mem {β : Nat → Bool} {acc : Acc} (hf : acc.fits β) {l : List (Key × Value)} : ∀ {bs : List (Key × Nat × Bool)} {e : Key × Value}, e ∈ binsOf bs acc l → e ∈ l ∨ ∃ x ∈ bs, e = (x.1, .bool (cond x.2.2 (β x.2.1) (!β x.2.1)))
  | [], _, h => .inl h
  | (k, i, pol) :: bs, e, h => by
    unfold binsOf at h
    cases hg : acc.get i with
    | none =>
      rw [hg] at h
      rcases binsOf_mem hf h with h | ⟨x, h1, h2⟩
      · exact .inl h
      · exact .inr ⟨x, List.mem_cons_of_mem _ h1, h2⟩
    | some b =>
      rw [hg] at h
      simp only [List.mem_cons] at h
      rcases h with h | h
      · refine .inr ⟨(k, i, pol), List.mem_cons_self .., ?_⟩
        rw [h]; simp only [hf i b hg]
      · rcases binsOf_mem hf h with h | ⟨x, h1, h2⟩
        · exact .inl h
        · exact .inr ⟨x, List.mem_cons_of_mem _ h1, h2⟩
theorem callsOf_mem {β : Nat → Bool} {acc : Acc} (hf : acc.fits β) {f : FuncId} : ∀ {cs : List (FuncId × List Value × Nat)} {e : List Value × Value}, e ∈ callsOf f cs acc → ∃ x ∈ cs, x.1 = f ∧ e = (x.2.1, .bool (β x.2.2))
  | [], _, h => by cases h
  | (g, args, i) :: cs, e, h => by
    unfold callsOf at h
    cases hg : acc.get i with
    | none =>
      rw [hg] at h
      obtain ⟨x, h1, h2⟩ := callsOf_mem hf h
      exact ⟨x, List.mem_cons_of_mem _ h1, h2⟩
    | some b =>
      rw [hg] at h
      simp only at h
      cases hb : Nat.beq g f with
      | false =>
        rw [hb] at h
        obtain ⟨x, h1, h2⟩ := callsOf_mem hf h
        exact ⟨x, List.mem_cons_of_mem _ h1, h2⟩
      | true =>
        rw [hb] at h
        simp only [cond_true, List.mem_cons] at h
        rcases h with h | h
        · exact ⟨(g, args, i), List.mem_cons_self .., Nat.eq_of_beq_eq_true hb, by rw [h]; simp only [hf i b hg]⟩
        · obtain ⟨x, h1, h2⟩ := callsOf_mem hf h
          exact ⟨x, List.mem_cons_of_mem _ h1, h2⟩
theorem fixesOf_mem {f : FuncId} : ∀ {cs : List (FuncId × List Value × Value)} {e : List Value × Value}, e ∈ fixesOf f cs → ∃ x ∈ cs, x.1 = f ∧ e = x.2
  | [], _, h => by cases h
  | (g, args, v) :: cs, e, h => by
    unfold fixesOf at h
    cases hb : Nat.beq g f with
    | false =>
      rw [hb] at h
      obtain ⟨x, h1, h2⟩ := fixesOf_mem h
      exact ⟨x, List.mem_cons_of_mem _ h1, h2⟩
    | true =>
      rw [hb] at h
      simp only [cond_true, List.mem_cons] at h
      rcases h with h | h
      · exact ⟨(g, args, v), List.mem_cons_self .., Nat.eq_of_beq_eq_true hb, h⟩
      · obtain ⟨x, h1, h2⟩ := fixesOf_mem h
        exact ⟨x, List.mem_cons_of_mem _ h1, h2⟩

theorem QsOK.prims {P : Program} {q : Qs} {β : Nat → Bool} (h : QsOK P q β) {acc : Acc} (hf : acc.fits β) : PrimsOK P (q.primsL acc) := by
  intro f k hm
  unfold Qs.primsL at hm
  rcases List.mem_append.1 hm with hm | hm
  · exact h.exts f k hm
  · obtain ⟨g, hg, e⟩ := List.mem_map.1 hm
    simp only [Prod.mk.injEq] at e
    obtain ⟨rfl, rfl⟩ := e
    have hfn : ∃ fn, P.funcs[g]? = some fn ∧ (fn.name == "runtime.NumGoroutine") = false ∧ fn.body.isNone = false := by
      unfold Qs.hooked at hg
      rcases List.mem_append.1 hg with hg | hg
      · obtain ⟨x, hx, rfl⟩ := List.mem_map.1 hg; exact (h.calls x hx).2.1
      · obtain ⟨x, hx, rfl⟩ := List.mem_map.1 hg; exact (h.fixC x hx).2.1
    obtain ⟨fn, f1, f2, f3⟩ := hfn
    refine .hook fn f1 f2 f3 (hookTab_ok fun e he => ?_)
    rcases List.mem_append.1 he with he | he
    · obtain ⟨x, hx, rfl, rfl⟩ := callsOf_mem hf he
      obtain ⟨h1, _, h3⟩ := h.calls x hx
      exact ⟨h1, h3⟩
    · obtain ⟨x, hx, rfl, rfl⟩ := fixesOf_mem he
      obtain ⟨h1, _, h3⟩ := h.fixC x hx
      exact ⟨h1, h3⟩
theorem QsOK.binOK {P : Program} {q : Qs} {β : Nat → Bool} (h : QsOK P q β) {acc : Acc} (hf : acc.fits β) : BinOK P (binTab (binsOf q.bins acc q.fixB)) := by
  refine binTab_ok fun e he => ?_
  rcases binsOf_mem hf he with he | ⟨x, hx, rfl⟩
  · exact h.fixB e he
  · exact ⟨(h.bins x hx).1, rfl, (h.bins x hx).2⟩

theorem tree_calls {P : Program} {q : Qs} {β : Nat → Bool} (h : QsOK P q β) (hmix : P.follows .mixedOrders = true) {n : Nat} {f : FuncId} {fn : Func} (hf : P.funcs[f]? = some fn) {args : List Value} (ha : args.all symOnly = true) (hpr : ∀ acc, prims P (q.primsL acc) f = none)
    (w : World) (hw : Below Sig.lim Sig.old w) (hlim : Sig.lim ≤ w.heap.size) : ∀ {t : DT} {acc : Acc}, t.fine = true → acc.fits β → checkT P q n f args t acc = true →
    Calls P f (args.map inst).toArray w (fun e w' => e = .returned (inst (t.eval β)) ∧ Below w.heap.size w w')
  | .leaf v, acc, hfi, hac, hc => by
    obtain ⟨H', hr⟩ := ansIs_spec hc
    exact run_calls (h.prims hac) (h.binOK hac) (unTab_ok h.fixU) hmix hf (hpr acc) hr hfi ha w hw hlim
  | .ask i no yes, acc, hfi, hac, hc => by
    simp only [DT.fine, Bool.and_eq_true] at hfi
    simp only [checkT, Bool.and_eq_true] at hc
    cases hb : β i with
    | false =>
      have := tree_calls h hmix hf ha hpr w hw hlim hfi.1 (fun j b hj => by
        simp only [Acc.get] at hj
        cases e : Nat.beq i j with
        | false => rw [e] at hj; exact hac j b hj
        | true => rw [e] at hj; cases hj; rw [← Nat.eq_of_beq_eq_true e]; exact hb) hc.1
      simp only [DT.eval, hb, cond_false]
      exact this
    | true =>
      have := tree_calls h hmix hf ha hpr w hw hlim hfi.2 (fun j b hj => by
        simp only [Acc.get] at hj
        cases e : Nat.beq i j with
        | false => rw [e] at hj; exact hac j b hj
        | true => rw [e] at hj; cases hj; rw [← Nat.eq_of_beq_eq_true e]; exact hb) hc.2
      simp only [DT.eval, hb, cond_true]
      exact this

/-! ### Comparisons of numbers, of texts -/
def cmpI (op : BinOp) (m n : Int) : Bool :=
  match op with
  | .eql => m == n
  | .neq => m != n
  | .lss => decide (m < n)
  | .leq => decide (m ≤ n)
  | .gtr => decide (m > n)
  | .geq => decide (m ≥ n)
  | _ => false
def isCmp : BinOp → Bool
  | .eql | .neq | .lss | .leq | .gtr | .geq => true
  | _ => false
theorem keyOK_int {P : Program} {k : Key} {j : IntKind} {m n : Int} {b : Bool} (ho : isCmp k.op = true) (ha : inst k.a = .int j m) (hb : inst k.b = .int j n) (h : cmpI k.op m n = b) : KeyOK P k (.bool b) := by
  intro x y w
  obtain ⟨op, xt, a, b'⟩ := k
  simp only at ho ha hb h ⊢
  rw [ha, hb]
  subst h
  have hi : ∀ b, inst (.bool b) = .bool b := fun _ => rfl
  cases op <;> first | (simp [isCmp] at ho; done) | (rw [hi]; simp [eqGuard, binOp, Op.intCmp, cmpI])
def cmpS (op : BinOp) (s t : ByteArray) : Bool :=
  match op with
  | .eql => s.toList == t.toList
  | .neq => !(s.toList == t.toList)
  | .lss => Op.bytesLess s.toList t.toList
  | .leq => Op.bytesLess s.toList t.toList || s.toList == t.toList
  | .gtr => !(Op.bytesLess s.toList t.toList || s.toList == t.toList)
  | .geq => !(Op.bytesLess s.toList t.toList)
  | _ => false
theorem keyOK_str {P : Program} {k : Key} {s t : ByteArray} {b : Bool} (ho : isCmp k.op = true) (ha : inst k.a = .string s) (hb : inst k.b = .string t) (h : cmpS k.op s t = b) : KeyOK P k (.bool b) := by
  intro x y w
  obtain ⟨op, xt, a, b'⟩ := k
  simp only at ho ha hb h ⊢
  rw [ha, hb]
  subst h
  have hi : ∀ b, inst (.bool b) = .bool b := fun _ => rfl
  cases op <;> first | (simp [isCmp] at ho; done) | (rw [hi]; simp [eqGuard, binOp, Op.stringOp, cmpS])
/-- A struct of two numbers. -/
structure IsPair (P : Program) (t u : TypeId) (fs : Array Field) : Prop where
  under : P.underlying t = some (.struct fs)
  fields : fs.toList.map (fun f => (f.name != "_", f.type, f.offset)) = [(true, u, 0), (true, u, 1)]
  int : P.underlying u = some (.int .i64)
  held : P.stoodInHeld t = false
  guard : P.eqGuardType P.depth t = false
end Go.Eng
