/- The engine, part 1: the relation between the interpreter's heap and the model's world; what memory's primitives keep. -/
import Derived.Test.YtkfkpiphbflokaaGreatDoorE0
namespace Go.Eng
open Go.RowKit (Below)

variable {α β : Type}

/-- The numbers that are not known. -/
class Sig where
  val : Nat → Value
  one : ∀ b, (val b).oneCell' = true
  /-- Of some cells something is known alone. -/
  pr : Nat → Value → Prop
  /-- What the rows hold that are told by a number. -/
  rows : Nat → List Value
  pone : ∀ b v, pr b v → v.oneCell' = true
  /-- The world of which something is known; how many of its blocks stay as they were. -/
  old : World
  lim : Nat

/-! ### The store's laws -/
theorem Tr.strict_eq (t : Tr α) (k : Tr α → β) : Tr.strict t k = k t := by cases t <;> rfl
theorem forceL_eq (l : List α) : ∀ (k : List α → β), forceL l k = k l := by
  induction l with
  | nil => intro k; rfl
  | cons x xs ih => intro k; simp [forceL, ih]

theorem beq_of_ne {n m : Nat} (h : n ≠ m) : Nat.beq n m = false := by
  cases e : Nat.beq n m with
  | false => rfl
  | true => exact absurd (Nat.eq_of_beq_eq_true e) h

theorem Tr.get_parts (d : α) (t : Tr α) (n : Nat) :
    t.get d n = if n = 0 then t.val d else if n % 2 = 1 then t.left.get d (n / 2) else t.right.get d (n / 2 - 1) := by
  cases t with
  | nil => simp [Tr.get, Tr.val, Tr.left, Tr.right]
  | node v l r =>
    simp only [Tr.get, Tr.val, Tr.left, Tr.right]
    by_cases h : n = 0
    · subst h; simp
    · have : Nat.beq n 0 = false := beq_of_ne h
      rw [this, if_neg h]
      by_cases h2 : n % 2 = 1
      · simp [h2]
      · have : Nat.beq (n % 2) 1 = false := beq_of_ne h2
        rw [this, if_neg h2]; rfl

theorem Tr.get_setF (d : α) (b : α) : ∀ (f : Nat) (t : Tr α) (n m : Nat), n ≤ f → (Tr.setF d f t n b).get d m = if m = n then b else t.get d m := by
  intro f
  induction f with
  | zero =>
    intro t n m h
    obtain rfl : n = 0 := by omega
    rw [Tr.get_parts, Tr.get_parts d t m]
    by_cases hm : m = 0 <;> simp [hm, Tr.setF, Tr.val, Tr.left, Tr.right]
  | succ f ih =>
    intro t n m h
    rw [Tr.get_parts, Tr.get_parts d t m]
    by_cases h0 : n = 0
    · subst h0
      by_cases hm : m = 0 <;> simp [hm, Tr.setF, Tr.val, Tr.left, Tr.right]
    · have e0 : Nat.beq n 0 = false := beq_of_ne h0
      by_cases h1 : n % 2 = 1
      · have e1 : Nat.beq (n % 2) 1 = true := by rw [h1]; rfl
        simp only [Tr.setF, e0, e1, cond_false, cond_true, Tr.strict_eq, Tr.val, Tr.left, Tr.right]
        rw [ih _ _ _ (by omega)]
        by_cases hm : m = 0
        · subst hm; simp [show ¬ 0 = n by omega]
        · by_cases hm2 : m % 2 = 1
          · simp only [hm, hm2, if_true, if_false]
            by_cases e : m = n
            · subst e; simp
            · rw [if_neg (by omega), if_neg e]
          · simp only [hm, hm2, if_false]
            rw [if_neg (by rintro rfl; omega)]
      · have e1 : Nat.beq (n % 2) 1 = false := beq_of_ne h1
        simp only [Tr.setF, e0, e1, cond_false, Tr.strict_eq, Tr.val, Tr.left, Tr.right]
        rw [ih _ _ _ (by omega)]
        by_cases hm : m = 0
        · subst hm; simp [show ¬ 0 = n by omega]
        · by_cases hm2 : m % 2 = 1
          · simp only [hm, hm2, if_true, if_false]
            rw [if_neg (by rintro rfl; omega)]
          · simp only [hm, hm2, if_false]
            by_cases e : m = n
            · subst e; simp
            · rw [if_neg (by omega), if_neg e]

theorem Tr.get_set (d : α) (t : Tr α) (n m : Nat) (b : α) : (t.set d n b).get d m = if m = n then b else t.get d m :=
  Tr.get_setF d b n t n m (Nat.le_refl _)

theorem Heap.get_put (H : Heap) (b c : Nat) (x : Blk) : (H.put b x).get c = if c = b then x else H.get c := by
  simp [Heap.put, Heap.get, Tr.strict_eq, Tr.get_set]
theorem Heap.next_put (H : Heap) (b : Nat) (x : Blk) : (H.put b x).next = H.next := by simp [Heap.put, Tr.strict_eq]
theorem Heap.get_new (H : Heap) (c : Nat) (x : Blk) : (H.new x).get c = if c = H.next then x else H.get c := by
  simp [Heap.new, Heap.get, Tr.strict_eq, Tr.get_set]
theorem Heap.next_new (H : Heap) (x : Blk) : (H.new x).next = H.next + 1 := by simp [Heap.new, Tr.strict_eq]

/-! ### Values -/
set_option linter.unusedSectionVars false
variable [Sig]

/-- Where a block lies: the model's block, the first cell; how many cells; an element's cells, and how many elements more the row bears. -/
structure Pl where
  blk : Nat
  off : Nat
  n : Nat
  sz : Nat
  dl : Nat

abbrev Emb := Nat → Option Pl

inductive FRel (φ : Emb) : Fn → Fn → Prop
  | same (f : Fn) (h : ∀ l, f ≠ .yield l) : FRel φ f f
  | yield {l : Nat} {pl : Pl} (h : φ l = some pl) : FRel φ (.yield l) (.yield pl.blk)

mutual
inductive VRel (φ : Emb) : Value → Value → Prop
  | bool (b : Bool) : VRel φ (.bool b) (.bool b)
  | int (k : IntKind) (n : Int) : VRel φ (.int k n) (.int k n)
  | float (k : FloatKind) (n : Nat) : VRel φ (.float k n) (.float k n)
  | complex (k : FloatKind) (n m : Nat) : VRel φ (.complex k n m) (.complex k n m)
  | string (s : ByteArray) : VRel φ (.string s) (.string s)
  | ptrNil : VRel φ (.pointer none) (.pointer none)
  | ptr {b o : Nat} {pl : Pl} (h : φ b = some pl) : VRel φ (.pointer (some ⟨b, o, none⟩)) (.pointer (some ⟨pl.blk, pl.off + o, none⟩))
  | sliceNil : VRel φ (.slice none 0 0) (.slice none 0 0)
  | slice {b o len cap cap' : Nat} {pl : Pl} {a' : Addr} (h : φ b = some pl) (hl : len ≤ cap)
      (hc : cap' = cap + (if o + cap * pl.sz = pl.n then pl.dl else 0)) (ha : cap' = 0 ∨ a' = ⟨pl.blk, pl.off + o, none⟩) :
      VRel φ (.slice (some ⟨b, o, none⟩) len cap) (.slice (some a') len cap')
  | mapNil : VRel φ (.map none) (.map none)
  | map {r : Nat} {pl : Pl} (h : φ r = some pl) : VRel φ (.map (some r)) (.map (some pl.blk))
  | chanNil : VRel φ (.chan none) (.chan none)
  | func {fn fn' : Fn} {f f' c c' : Array Value} (h : FRel φ fn fn') (hf : VRels φ f.toList f'.toList) (hc : VRels φ c.toList c'.toList) :
      VRel φ (.func fn f c) (.func fn' f' c')
  | nilFunc : VRel φ .nilFunc .nilFunc
  | iface {t : TypeId} {v v' : Value} (h : VRel φ v v') : VRel φ (.iface t v) (.iface t v')
  | nilIface : VRel φ .nilIface .nilIface
  | agg {c c' : Array Value} (h : VRels φ c.toList c'.toList) : VRel φ (.agg c) (.agg c')
  | tuple {c c' : Array Value} (h : VRels φ c.toList c'.toList) : VRel φ (.tuple c) (.tuple c')
  /-- A cell of which nothing is known. -/
  | any {v' : Value} (h : v'.oneCell' = true) : VRel φ (.chan (some 0)) v'
  /-- A cell that is not known. -/
  | sym (b : Nat) : VRel φ (.chan (some (2 * b + 1))) (Sig.val b)
  | psym (b : Nat) {v' : Value} (h : Sig.pr b v') : VRel φ (.chan (some (4 * b + 2))) v'
  | hsl (b : Nat) {pl : Pl} {c' : Nat} (h : φ b = some pl) : VRel φ (.chan (some (4 * b + 4))) (.slice (some ⟨pl.blk, pl.off, none⟩) pl.n c')
inductive VRels (φ : Emb) : List Value → List Value → Prop
  | nil : VRels φ [] []
  | cons {v v' : Value} {l l' : List Value} (h : VRel φ v v') (t : VRels φ l l') : VRels φ (v :: l) (v' :: l')
end

def Emb.le (φ φ' : Emb) : Prop := ∀ b pl, φ b = some pl → φ' b = some pl
theorem Emb.le.refl (φ : Emb) : φ.le φ := fun _ _ h => h
theorem Emb.le.trans {a b c : Emb} (h : a.le b) (k : b.le c) : a.le c := fun x pl hx => k x pl (h x pl hx)

theorem FRel.mono {φ φ' : Emb} (h : φ.le φ') {f g : Fn} (r : FRel φ f g) : FRel φ' f g := by
  cases r with
  | same f hf => exact .same f hf
  | yield hl => exact .yield (h _ _ hl)

mutual
theorem VRel.mono {φ φ' : Emb} (h : φ.le φ') : ∀ {v v' : Value}, VRel φ v v' → VRel φ' v v'
  | _, _, .bool b => .bool b
  | _, _, .int k n => .int k n
  | _, _, .float k n => .float k n
  | _, _, .complex k n m => .complex k n m
  | _, _, .string s => .string s
  | _, _, .ptrNil => .ptrNil
  | _, _, .ptr hb => .ptr (h _ _ hb)
  | _, _, .sliceNil => .sliceNil
  | _, _, .slice hb hl hc ha => .slice (h _ _ hb) hl hc ha
  | _, _, .mapNil => .mapNil
  | _, _, .map hb => .map (h _ _ hb)
  | _, _, .chanNil => .chanNil
  | _, _, .func hf hx hc => .func (hf.mono h) (VRels.mono h hx) (VRels.mono h hc)
  | _, _, .nilFunc => .nilFunc
  | _, _, .iface hv => .iface (VRel.mono h hv)
  | _, _, .nilIface => .nilIface
  | _, _, .agg hc => .agg (VRels.mono h hc)
  | _, _, .tuple hc => .tuple (VRels.mono h hc)
  | _, _, .any hv => .any hv
  | _, _, .sym b => .sym b
  | _, _, .psym b h => .psym b h
  | _, _, .hsl b hb => .hsl b (h _ _ hb)
theorem VRels.mono {φ φ' : Emb} (h : φ.le φ') : ∀ {v v' : List Value}, VRels φ v v' → VRels φ' v v'
  | _, _, .nil => .nil
  | _, _, .cons hv ht => .cons (VRel.mono h hv) (VRels.mono h ht)
end

theorem VRels.length {φ : Emb} {l l' : List Value} (h : VRels φ l l') : l'.length = l.length := by
  induction l generalizing l' with
  | nil => cases h; rfl
  | cons x xs ih => cases h with | cons _ ht => simp [ih ht]
theorem VRels.get {φ : Emb} {l l' : List Value} (h : VRels φ l l') {i : Nat} {v : Value} (hi : l[i]? = some v) : ∃ v', l'[i]? = some v' ∧ VRel φ v v' := by
  induction l generalizing l' i with
  | nil => simp at hi
  | cons x xs ih =>
    cases h with
    | cons hv ht =>
      cases i with
      | zero => simp at hi; subst hi; exact ⟨_, rfl, hv⟩
      | succ i => simp at hi ⊢; exact ih ht hi
theorem VRels.get' {φ : Emb} {l l' : List Value} (h : VRels φ l l') {i : Nat} {v' : Value} (hi : l'[i]? = some v') : ∃ v, l[i]? = some v ∧ VRel φ v v' := by
  have hlt : i < l'.length := by
    rcases Nat.lt_or_ge i l'.length with h | h
    · exact h
    · simp [List.getElem?_eq_none h] at hi
  have hlt' : i < l.length := by rw [← h.length]; exact hlt
  obtain ⟨v'', h1, h2⟩ := h.get (List.getElem?_eq_getElem hlt')
  rw [hi] at h1; cases h1
  exact ⟨_, List.getElem?_eq_getElem hlt', h2⟩
theorem VRels.of_get {φ : Emb} : ∀ {l l' : List Value}, l'.length = l.length → (∀ (i : Nat) (v v' : Value), l[i]? = some v → l'[i]? = some v' → VRel φ v v') → VRels φ l l'
  | [], [], _, _ => .nil
  | [], _ :: _, h, _ => by simp at h
  | _ :: _, [], h, _ => by simp at h
  | x :: xs, y :: ys, hl, hg => .cons (hg 0 x y rfl rfl) (VRels.of_get (by simpa using hl) fun i v v' h h' => hg (i + 1) v v' (by simpa using h) (by simpa using h'))
theorem VRels.append {φ : Emb} {a a' b b' : List Value} (h : VRels φ a a') (k : VRels φ b b') : VRels φ (a ++ b) (a' ++ b') := by
  induction a generalizing a' with
  | nil => cases h; exact k
  | cons x xs ih => cases h with | cons hv ht => exact .cons hv (ih ht)
theorem VRels.take {φ : Emb} {a a' : List Value} (h : VRels φ a a') (n : Nat) : VRels φ (a.take n) (a'.take n) := by
  induction a generalizing a' n with
  | nil => cases h; simp; exact .nil
  | cons x xs ih => cases h with | cons hv ht => cases n with
    | zero => exact .nil
    | succ n => exact .cons hv (ih ht n)
theorem VRels.drop {φ : Emb} {a a' : List Value} (h : VRels φ a a') (n : Nat) : VRels φ (a.drop n) (a'.drop n) := by
  induction a generalizing a' n with
  | nil => cases h; simp; exact .nil
  | cons x xs ih => cases h with | cons hv ht => cases n with
    | zero => exact .cons hv ht
    | succ n => exact ih ht n
theorem VRels.set {φ : Emb} {a a' : List Value} (h : VRels φ a a') (n : Nat) {v v' : Value} (hv : VRel φ v v') : VRels φ (a.set n v) (a'.set n v') := by
  induction a generalizing a' n with
  | nil => cases h; exact .nil
  | cons x xs ih => cases h with | cons hx ht => cases n with
    | zero => exact .cons hv ht
    | succ n => exact .cons hx (ih ht n)

theorem flat0_eq {φ : Emb} {v v' : Value} (h : VRel φ v v') (hf : flat0 v = true) : v' = v := by
  cases h <;> (try simp [flat0] at hf) <;> try rfl
  rename_i fn fn' f f' c c' hF h1 h2
  cases fn <;> simp at hf
  obtain ⟨e1, e2⟩ := hf
  cases hF
  subst e1 e2
  simp at h1 h2
  cases h1' : f'.toList with
  | nil =>
    cases h2' : c'.toList with
    | nil => simp at h1' h2'; simp [h1', h2']
    | cons _ _ => rw [h2'] at h2; cases h2
  | cons _ _ => rw [h1'] at h1; cases h1
theorem flat0s_eq {φ : Emb} {l l' : List Value} (h : VRels φ l l') (hf : l.all flat0 = true) : l' = l := by
  induction l generalizing l' with
  | nil => cases h; rfl
  | cons x xs ih =>
    cases h with
    | cons hv ht => simp at hf; rw [flat0_eq hv hf.1, ih ht (by simpa using hf.2)]
theorem flat_eq {φ : Emb} {v v' : Value} (h : VRel φ v v') (hf : flat v = true) : v' = v := by
  cases h with
  | agg h => rename_i c c'; have := flat0s_eq h (by simpa [flat] using hf); have e : c' = c := by cases c; cases c'; simp_all; 
             rw [e]
  | tuple h => rename_i c c'; have := flat0s_eq h (by simpa [flat] using hf); have e : c' = c := by cases c; cases c'; simp_all; 
               rw [e]
  | iface h => rw [flat0_eq h (by simpa [flat] using hf)]
  | func hF h1 h2 => exact flat0_eq (.func hF h1 h2) (by simpa [flat] using hf)
  | slice h hl hc ha => simp [flat, flat0] at hf
  | ptr h => simp [flat, flat0] at hf
  | map h => simp [flat, flat0] at hf
  | any h => simp [flat, flat0] at hf
  | sym b => simp [flat, flat0] at hf
  | psym b h => simp [flat, flat0] at hf
  | hsl b h => simp [flat, flat0] at hf
  | _ => rfl
theorem VRel.refl0 (φ : Emb) {v : Value} (hf : flat0 v = true) : VRel φ v v := by
  cases v with
  | func fn f c =>
    cases fn <;> simp [flat0] at hf
    obtain ⟨e1, e2⟩ := hf
    subst e1 e2
    exact .func (.same _ (by intro l; simp)) .nil .nil
  | pointer a => cases a with
    | none => exact .ptrNil
    | some a => simp [flat0] at hf
  | slice a l c => cases a with
    | none => cases l <;> cases c <;> first | exact .sliceNil | simp [flat0] at hf
    | some a => simp [flat0] at hf
  | map r => cases r with
    | none => exact .mapNil
    | some a => simp [flat0] at hf
  | chan r => cases r with
    | none => exact .chanNil
    | some a => simp [flat0] at hf
  | bool b => exact .bool b
  | int k n => exact .int k n
  | float k n => exact .float k n
  | complex k n m => exact .complex k n m
  | string s => exact .string s
  | nilFunc => exact .nilFunc
  | nilIface => exact .nilIface
  | iface t v => simp [flat0] at hf
  | agg c => simp [flat0] at hf
  | tuple c => simp [flat0] at hf
theorem VRels.refl0 (φ : Emb) {l : List Value} (hf : l.all flat0 = true) : VRels φ l l := by
  induction l with
  | nil => exact .nil
  | cons x xs ih => simp at hf; exact .cons (.refl0 φ hf.1) (ih (by simpa using hf.2))
theorem VRel.refl (φ : Emb) {v : Value} (hf : flat v = true) : VRel φ v v := by
  unfold flat at hf
  split at hf
  · exact .agg (.refl0 φ hf)
  · exact .tuple (.refl0 φ hf)
  · exact .iface (.refl0 φ hf)
  · exact .refl0 φ hf
theorem VRel.undef (φ : Emb) : VRel φ undef undef := .tuple .nil

theorem VRel.cells {φ : Emb} {v v' : Value} (h : VRel φ v v') : VRels φ v.cells.toList v'.cells.toList := by
  cases h with
  | agg h => exact h
  | bool b => exact .cons (.bool b) .nil
  | int k n => exact .cons (.int k n) .nil
  | float k n => exact .cons (.float k n) .nil
  | complex k n m => exact .cons (.complex k n m) .nil
  | string s => exact .cons (.string s) .nil
  | ptrNil => exact .cons .ptrNil .nil
  | ptr h => exact .cons (.ptr h) .nil
  | sliceNil => exact .cons .sliceNil .nil
  | slice h hl hc ha => exact .cons (.slice h hl hc ha) .nil
  | mapNil => exact .cons .mapNil .nil
  | map h => exact .cons (.map h) .nil
  | chanNil => exact .cons .chanNil .nil
  | func a b c => exact .cons (.func a b c) .nil
  | nilFunc => exact .cons .nilFunc .nil
  | iface h => exact .cons (.iface h) .nil
  | nilIface => exact .cons .nilIface .nil
  | tuple h => exact .cons (.tuple h) .nil
  | any h => cases v' <;> first | (simp [Value.oneCell'] at h; done) | exact .cons (.any h) .nil
  | sym b => have h := Sig.one b; revert h; cases e : Sig.val b <;> intro h <;> first | (simp [Value.oneCell'] at h; done) | (rw [← e]; have k : VRels φ [Value.chan (some (2 * b + 1))] [Sig.val b] := .cons (.sym b) .nil; rw [e] at k ⊢; exact k)
  | psym b h => have ho := Sig.pone b _ h; cases v' <;> first | (simp [Value.oneCell'] at ho; done) | exact .cons (.psym b h) .nil
  | hsl b h => exact .cons (.hsl b h) .nil
theorem VRel.oneCell {φ : Emb} {v v' : Value} (h : VRel φ v v') : v'.oneCell' = v.oneCell' := by cases h <;> first | rfl | assumption | exact Sig.one _ | exact Sig.pone _ _ ‹_›
theorem VRels.oneCells {φ : Emb} {l l' : List Value} (h : VRels φ l l') : oneCells l' = oneCells l := by
  induction l generalizing l' with
  | nil => cases h; rfl
  | cons x xs ih => cases h with | cons hv ht => simp [Eng.oneCells, hv.oneCell, ih ht]
theorem VRel.cells_size {φ : Emb} {v v' : Value} (h : VRel φ v v') : v'.cells.size = v.cells.size := by
  have := h.cells.length; simpa using this

/-- The frame's slots. -/
structure TRel (φ : Emb) (N : Nat) (t : Tr Value) (tmps : Array Value) : Prop where
  size : tmps.size = N
  get : ∀ i, VRel φ (t.get undef i) (tmps.getD i undef)
theorem TRel.mono {φ φ' : Emb} (h : φ.le φ') {N : Nat} {t : Tr Value} {a : Array Value} (r : TRel φ N t a) : TRel φ' N t a := ⟨r.size, fun i => (r.get i).mono h⟩

/-- A map's entries. -/
inductive ERels (φ : Emb) : List MapEntry → List MapEntry → Prop
  | nil : ERels φ [] []
  | cons {e e' : MapEntry} {l l' : List MapEntry} (hk : VRel φ e.key e'.key) (hv : VRel φ e.val e'.val) (hb : e'.born = e.born) (t : ERels φ l l') : ERels φ (e :: l) (e' :: l')
theorem ERels.mono {φ φ' : Emb} (h : φ.le φ') {l l' : List MapEntry} (r : ERels φ l l') : ERels φ' l l' := by
  induction r with
  | nil => exact .nil
  | cons hk hv hb _ ih => exact .cons (hk.mono h) (hv.mono h) hb ih

/-! ### Blocks -/
def Blk.own : Blk → Bool
  | .dead => false
  | .cells _ _ _ _ ro => !ro
  | .opq _ => false
  | _ => true
def Blk.live : Blk → Bool
  | .dead => false
  | _ => true

theorem Blk.live_of_own {b : Blk} (h : b.own = true) : b.live = true := by cases b <;> simp_all [Blk.own, Blk.live]

def BRel (φ : Emb) (base : Nat) (w : World) (pl : Pl) : Blk → Prop
  | .dead => True
  | .cells cs el sz slack ro => pl.n = cs.length ∧ (slack = true → pl.sz = sz) ∧ (slack = false → pl.dl = 0) ∧ pl.off % sz = 0 ∧
      ∃ c fz, w.heap[pl.blk]? = some (.cells c el fz) ∧ pl.off + cs.length + pl.dl * pl.sz ≤ c.size ∧
        VRels φ cs ((c.toList.drop pl.off).take cs.length) ∧ (ro = false → base ≤ pl.blk ∧ fz = (0, 0))
  | .map es clock => base ≤ pl.blk ∧ ∃ es' : Array MapEntry, w.heap[pl.blk]? = some (.map es' clock) ∧ ERels φ es es'.toList
  | .iter m since seen st => base ≤ pl.blk ∧ pl.off = 0 ∧ ∃ m', w.heap[pl.blk]? = some (.mapIter m' since seen.toArray st) ∧
      (match m with
       | none => m' = none
       | some r => ∃ q, φ r = some q ∧ m' = some q.blk)
  | .loop st pend N tmps ps asg body => base ≤ pl.blk ∧ ∃ r : Loop, w.heap[pl.blk]? = some (.loop r) ∧ r.state = st ∧ r.pending = pend ∧
      r.params.toList = ps ∧ r.assign = asg ∧ r.body = body ∧ TRel φ N tmps r.tmps
  | .marks => base ≤ pl.blk ∧ w.heap[pl.blk]? = some (.deferred (some []))
  | .opq k => pl.n = (Sig.rows k).length ∧ ∃ c el fz, w.heap[pl.blk]? = some (.cells c el fz) ∧ ∀ i v, (Sig.rows k)[i]? = some v → c[pl.off + i]? = some v

theorem BRel.mono {φ φ' : Emb} (h : φ.le φ') {base : Nat} {w : World} {pl : Pl} {b : Blk} (r : BRel φ base w pl b) : BRel φ' base w pl b := by
  cases b with
  | dead => trivial
  | cells cs el sz slack ro =>
    obtain ⟨h1, h2, h3, hm, c, fz, h4, h5, h6, h7⟩ := r
    exact ⟨h1, h2, h3, hm, c, fz, h4, h5, h6.mono h, h7⟩
  | map es clock => obtain ⟨h0, es', h1, h2⟩ := r; exact ⟨h0, es', h1, h2.mono h⟩
  | iter m since seen st =>
    obtain ⟨h0, h1, m', h2, h3⟩ := r
    refine ⟨h0, h1, m', h2, ?_⟩
    cases m with
    | none => exact h3
    | some x => obtain ⟨q, hq, e⟩ := h3; exact ⟨q, h _ _ hq, e⟩
  | loop st pend N tmps ps asg body =>
    obtain ⟨h0, r, h1, h2, h3, h4, h5, h6, h7⟩ := r
    exact ⟨h0, r, h1, h2, h3, h4, h5, h6, h7.mono h⟩
  | marks => exact r
  | opq k => exact r

/-- What a block's relation asks of the world is its one block. -/
theorem BRel.world {φ : Emb} {base : Nat} {w w' : World} {pl : Pl} {b : Blk} (r : BRel φ base w pl b) (h : b.live = true → w'.heap[pl.blk]? = w.heap[pl.blk]?) : BRel φ base w' pl b := by
  cases b <;> simp only [BRel, Blk.live, forall_const] at * <;> first | exact r | (rw [h]; exact r)

/-- What a run leaves alone: the world in which it is looked at first, below a block's number; and some blocks beside, which the interpreter does not see. -/
structure Cx where
  w : World
  G : Nat → Prop
  /-- Numbers that stay dead; numbers that stay without a place. -/
  D : Nat → Prop
  U : Nat → Prop

structure Rel (P : Program) (w0 : Cx) (base : Nat) (φ : Emb) (H : Heap) (w : World) : Prop where
  below : Below base w0.w w
  keep : ∀ k, w0.G k → w.heap[k]? = w0.w.heap[k]?
  gl : ∀ k, w0.G k → k < w.heap.size
  ng : ∀ b pl, φ b = some pl → (H.get b).live = true → ¬ w0.G pl.blk
  low : base ≤ w.heap.size
  top : ∀ b, H.next ≤ b → φ b = none
  dead : ∀ b, H.next ≤ b → H.get b = .dead
  glob : ∀ g, g < P.globals.size → ∃ pl, φ g = some pl ∧ pl.blk = g ∧ pl.off = 0
  blk : ∀ b pl, φ b = some pl → BRel φ base w pl (H.get b)
  inj : ∀ b b' pl pl', b ≠ b' → φ b = some pl → φ b' = some pl' → (H.get b).own = true → (H.get b').live = true → pl.blk ≠ pl'.blk
  res : ∀ b, w0.D b → b < H.next ∧ H.get b = .dead
  unp : ∀ b, w0.U b → b < H.next ∧ φ b = none
  hold : Below Sig.lim Sig.old w0.w ∧ Sig.lim ≤ base

section
variable {P : Program} {w0 : Cx} {base : Nat} {φ : Emb} {H : Heap} {w : World}

theorem Rel.told (r : Rel P w0 base φ H w) : Below Sig.lim Sig.old w := r.hold.1.trans (r.below.mono r.hold.2)

theorem Rel.lt (r : Rel P w0 base φ H w) {b : Nat} {pl : Pl} (h : φ b = some pl) : b < H.next := by
  rcases Nat.lt_or_ge b H.next with h' | h'
  · exact h'
  · rw [r.top b h'] at h; cases h

theorem Rel.live_size (r : Rel P w0 base φ H w) {b : Nat} {pl : Pl} (h : φ b = some pl) (hl : (H.get b).live = true) : pl.blk < w.heap.size := by
  have hb := r.blk b pl h
  have key : ∀ o : Obj, w.heap[pl.blk]? = some o → pl.blk < w.heap.size := fun o ho => (Array.getElem?_eq_some_iff.1 ho).1
  cases hg : H.get b with
  | dead => rw [hg] at hl; cases hl
  | cells cs el sz slack ro => rw [hg] at hb; obtain ⟨_, _, _, _, c, fz, h4, _⟩ := hb; exact key _ h4
  | map es clock => rw [hg] at hb; obtain ⟨_, es', h1, _⟩ := hb; exact key _ h1
  | iter m since seen st => rw [hg] at hb; obtain ⟨_, _, m', h1, _⟩ := hb; exact key _ h1
  | loop st pend N tmps ps asg body => rw [hg] at hb; obtain ⟨_, r, h1, _⟩ := hb; exact key _ h1
  | marks => rw [hg] at hb; exact key _ hb.2
  | opq k => rw [hg] at hb; obtain ⟨_, c, el, fz, h4, _⟩ := hb; exact key _ h4

/-- The worlds that differ in the count of draws alone. -/
theorem Rel.drew (r : Rel P w0 base φ H w) : Rel P w0 base φ H w.drew :=
  { below := r.below.drew, keep := r.keep, gl := r.gl, ng := r.ng, low := r.low, top := r.top, dead := r.dead, glob := r.glob, blk := fun b pl h => (r.blk b pl h).world (fun _ => rfl), inj := r.inj, res := r.res, unp := r.unp, hold := r.hold }

def Emb.add (φ : Emb) (b : Nat) (pl : Pl) : Emb := fun x => if x = b then some pl else φ x
theorem Emb.add_same (φ : Emb) (b : Nat) (pl : Pl) : φ.add b pl b = some pl := by simp [Emb.add]
theorem Emb.le_add {φ : Emb} {b : Nat} (pl : Pl) (h : φ b = none) : φ.le (φ.add b pl) := by
  intro x q hx
  unfold Emb.add
  split
  · rename_i e; subst e; rw [h] at hx; cases hx
  · exact hx

theorem Rel.fresh (r : Rel P w0 base φ H w) : φ H.next = none := r.top _ (Nat.le_refl _)

/-- A new block, laid at the heap's end. -/
theorem Rel.new (r : Rel P w0 base φ H w) (x : Blk) (o : Obj) (pl : Pl) (hb : pl.blk = w.heap.size)
    (hx : BRel (φ.add H.next pl) base (w.alloc o) pl x) : Rel P w0 base (φ.add H.next pl) (H.new x) (w.alloc o) := by
  have hle := Emb.le_add pl r.fresh
  refine ⟨r.below.alloc r.low o, ?_, ?_, ?_, ?_, ?_, ?_, ?_, ?_, ?_,
    fun b hb => by have := r.res b hb; rw [Heap.next_new, Heap.get_new, if_neg (by omega)]; exact ⟨by omega, this.2⟩,
    fun b hb => by have := r.unp b hb; rw [Heap.next_new]; exact ⟨by omega, by unfold Emb.add; rw [if_neg (by omega)]; exact this.2⟩, r.hold⟩
  · intro k hk; rw [Below.heap_alloc _ _ _ (r.gl k hk)]; exact r.keep k hk
  · intro k hk; have := r.gl k hk; show k < (w.heap.push o).size; simp; omega
  · intro b q hq hl hG
    rw [Heap.get_new] at hl
    by_cases e : b = H.next
    · subst e; rw [Emb.add_same] at hq; cases hq; have := r.gl _ hG; omega
    · have hq' : φ b = some q := by unfold Emb.add at hq; rwa [if_neg e] at hq
      rw [if_neg e] at hl
      exact r.ng b q hq' hl hG
  · have := r.low; show base ≤ (w.heap.push o).size; simp; omega
  · intro b hb'
    rw [Heap.next_new] at hb'
    unfold Emb.add
    rw [if_neg (by omega)]
    exact r.top b (by omega)
  · intro b hb'
    rw [Heap.next_new] at hb'
    rw [Heap.get_new, if_neg (by omega)]
    exact r.dead b (by omega)
  · intro g hg; obtain ⟨q, hq, h2⟩ := r.glob g hg; exact ⟨q, hle _ _ hq, h2⟩
  · intro b q hq
    by_cases e : b = H.next
    · subst e
      rw [Emb.add_same] at hq; cases hq
      rw [Heap.get_new, if_pos rfl]
      exact hx
    · have hq' : φ b = some q := by unfold Emb.add at hq; rwa [if_neg e] at hq
      rw [Heap.get_new, if_neg e]
      refine ((r.blk b q hq').mono hle).world fun hl => ?_
      have := r.live_size hq' hl
      exact Below.heap_alloc _ _ _ this
  · intro b b' q q' hne hq hq' ho hl
    rw [Heap.get_new] at ho hl
    by_cases e : b = H.next
    · subst e
      rw [Emb.add_same] at hq; cases hq
      rw [if_neg (by omega)] at hl
      have hq2 : φ b' = some q' := by unfold Emb.add at hq'; rwa [if_neg (by omega)] at hq'
      have := r.live_size hq2 hl
      omega
    · have hq1 : φ b = some q := by unfold Emb.add at hq; rwa [if_neg e] at hq
      rw [if_neg e] at ho
      by_cases e' : b' = H.next
      · subst e'
        rw [Emb.add_same] at hq'; cases hq'
        have hl' : (H.get b).live = true := by cases hg : H.get b <;> simp_all [Blk.own, Blk.live]
        have := r.live_size hq1 hl'
        omega
      · have hq2 : φ b' = some q' := by unfold Emb.add at hq'; rwa [if_neg e'] at hq'
        rw [if_neg e'] at hl
        exact r.inj b b' q q' hne hq1 hq2 ho hl


theorem Rel.own_base (r : Rel P w0 base φ H w) {b : Nat} {pl : Pl} (h : φ b = some pl) (ho : (H.get b).own = true) : base ≤ pl.blk := by
  have hb := r.blk b pl h
  cases hg : H.get b with
  | dead => rw [hg] at ho; cases ho
  | cells cs el sz slack ro => rw [hg] at hb ho; obtain ⟨_, _, _, _, c, fz, _, _, _, h7⟩ := hb; exact (h7 (by simpa [Blk.own] using ho)).1
  | map es clock => rw [hg] at hb; exact hb.1
  | iter m since seen st => rw [hg] at hb; exact hb.1
  | loop st pend N tmps ps asg body => rw [hg] at hb; exact hb.1
  | marks => rw [hg] at hb; exact hb.1
  | opq k => rw [hg] at ho; cases ho

/-- One block of one's own is written: it and its row turn, all else stays. -/
theorem Rel.put (r : Rel P w0 base φ H w) {b : Nat} {pl : Pl} (h : φ b = some pl) (ho : (H.get b).own = true) (x : Blk) {w' : World}
    (hos : w'.os = w.os) (htape : w'.tape = w.tape) (hout : w'.output = w.output) (hsize : w'.heap.size = w.heap.size)
    (hw : ∀ k, k ≠ pl.blk → w'.heap[k]? = w.heap[k]?) (hx : BRel φ base w' pl x) : Rel P w0 base φ (H.put b x) w' := by
  have hbase := r.own_base h ho
  have hng := r.ng b pl h (Blk.live_of_own ho)
  refine ⟨r.below.trans ⟨hos, htape, hout, by omega, fun k hk => hw k (by omega)⟩, fun k hk => (hw k (fun e => hng (e ▸ hk))).trans (r.keep k hk), fun k hk => by have := r.gl k hk; omega, ?_, by have := r.low; omega, ?_, ?_, r.glob, ?_, ?_,
    fun c hc => by have := r.res c hc; rw [Heap.next_put, Heap.get_put, if_neg (by rintro rfl; rw [this.2] at ho; cases ho)]; exact this,
    fun c hc => by have := r.unp c hc; rw [Heap.next_put]; exact this, r.hold⟩
  · intro c q hq hl
    rw [Heap.get_put] at hl
    by_cases e : c = b
    · subst e; rw [h] at hq; cases hq; exact hng
    · rw [if_neg e] at hl; exact r.ng c q hq hl
  · intro c hc; rw [Heap.next_put] at hc; exact r.top c hc
  · intro c hc
    rw [Heap.next_put] at hc
    have := r.lt h
    rw [Heap.get_put, if_neg (by omega)]
    exact r.dead c hc
  · intro c q hq
    rw [Heap.get_put]
    by_cases e : c = b
    · subst e; rw [h] at hq; cases hq; rw [if_pos rfl]; exact hx
    · rw [if_neg e]
      exact (r.blk c q hq).world fun hl => hw _ (fun e' => r.inj b c pl q (fun e'' => e e''.symm) h hq ho hl e'.symm)
  · intro c c' q q' hne hq hq' ho' hl
    rw [Heap.get_put] at ho' hl
    by_cases e : c = b
    · subst e
      rw [if_neg (fun e' => hne e'.symm)] at hl
      exact r.inj c c' q q' hne hq hq' ho hl
    · rw [if_neg e] at ho'
      by_cases e' : c' = b
      · subst e'
        exact r.inj c c' q q' hne hq hq' ho' (Blk.live_of_own ho)
      · rw [if_neg e'] at hl
        exact r.inj c c' q q' hne hq hq' ho' hl

/-- A block is given up, or shut for writing. -/
theorem Rel.shut (r : Rel P w0 base φ H w) (b : Nat) (x : Blk) (hx : ∀ pl, φ b = some pl → BRel φ base w pl x) (ho : x.own = false) (hl : x.live = true → (H.get b).live = true) (hb : b < H.next) : Rel P w0 base φ (H.put b x) w := by
  refine ⟨r.below, r.keep, r.gl, ?_, r.low, ?_, ?_, r.glob, ?_, ?_, ?_, fun c hc => by have := r.unp c hc; rw [Heap.next_put]; exact this, r.hold⟩
  · intro c q hq hl'
    rw [Heap.get_put] at hl'
    by_cases e : c = b
    · subst e; rw [if_pos rfl] at hl'; exact r.ng c q hq (hl hl')
    · rw [if_neg e] at hl'; exact r.ng c q hq hl'
  · intro c hc; rw [Heap.next_put] at hc; exact r.top c hc
  · intro c hc; rw [Heap.next_put] at hc; rw [Heap.get_put, if_neg (by omega)]; exact r.dead c hc
  · intro c q hq
    rw [Heap.get_put]
    split
    · rename_i e; subst e; exact hx q hq
    · exact r.blk c q hq
  · intro c c' q q' hne hq hq' ho' hl'
    rw [Heap.get_put] at ho' hl'
    by_cases e : c = b
    · rw [if_pos e, ho] at ho'; cases ho'
    · rw [if_neg e] at ho'
      by_cases e' : c' = b
      · subst e'; rw [if_pos rfl] at hl'; exact r.inj c c' q q' hne hq hq' ho' (hl hl')
      · rw [if_neg e'] at hl'; exact r.inj c c' q q' hne hq hq' ho' hl'
  · intro c hc
    have := r.res c hc
    rw [Heap.next_put, Heap.get_put]
    refine ⟨this.1, ?_⟩
    split
    · rename_i e
      subst e
      cases hx : x.live with
      | false => cases x <;> first | rfl | (simp [Blk.live] at hx)
      | true => have := hl hx; rw [(r.res c hc).2] at this; cases this
    · exact this.2

end
end Go.Eng
