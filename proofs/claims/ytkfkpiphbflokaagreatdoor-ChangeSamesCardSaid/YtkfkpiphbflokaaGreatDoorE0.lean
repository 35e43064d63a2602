/- The engine, part 0: a deterministic interpreter of the model's code over a heap of its own numbering. Definitions alone. -/
import Derived.RangeFuncLeaves
import Derived.RangeFuncRecord
import Derived.OrdersIn
import Derived.Below
namespace Go.Eng

/-! ### A store: a map from numbers to things -/
inductive Tr (α : Type) where
  | nil
  | node (v : α) (l r : Tr α)

variable {α β : Type}

def Tr.get (d : α) : Tr α → Nat → α
  | .nil, _ => d
  | .node v l r, n => cond (Nat.beq n 0) v (cond (Nat.beq (n % 2) 1) (l.get d (n / 2)) (r.get d (n / 2 - 1)))

def Tr.val (d : α) : Tr α → α
  | .nil => d
  | .node v _ _ => v
def Tr.left : Tr α → Tr α
  | .nil => .nil
  | .node _ l _ => l
def Tr.right : Tr α → Tr α
  | .nil => .nil
  | .node _ _ r => r

/-- The part is reckoned before it is laid. -/
def Tr.strict (t : Tr α) (k : Tr α → β) : β :=
  match t with
  | .nil => k .nil
  | .node v l r => k (.node v l r)

def Tr.setF (d : α) : Nat → Tr α → Nat → α → Tr α
  | 0, t, _, b => .node b t.left t.right
  | f + 1, t, n, b =>
    cond (Nat.beq n 0) (.node b t.left t.right)
      (cond (Nat.beq (n % 2) 1)
        (Tr.strict (Tr.setF d f t.left (n / 2) b) fun l => .node (t.val d) l t.right)
        (Tr.strict (Tr.setF d f t.right (n / 2 - 1) b) fun r => .node (t.val d) t.left r))

def Tr.set (d : α) (t : Tr α) (n : Nat) (b : α) : Tr α := Tr.setF d n t n b

def forceL (l : List α) (k : List α → β) : β :=
  match l with
  | [] => k []
  | x :: xs => forceL xs fun ys => k (x :: ys)

/-! ### The heap -/
inductive Blk where
  | dead
  /-- Cells; of what type; how many cells an element has (where 'slack'); slack: the real row may be longer; ro: nobody writes here. -/
  | cells (cs : List Value) (el : TypeId) (sz : Nat) (slack ro : Bool)
  | map (es : List MapEntry) (clock : Nat)
  | iter (m : Option Nat) (since : Nat) (seen : List Nat) (stepped : Nat)
  | loop (state : LoopState) (pending : Option Code) (N : Nat) (tmps : Tr Value) (params : List Tmp) (assign body : Code)
  | marks
  /-- A row that nobody writes; what it holds is told by its number. -/
  | opq (k : Nat)
  deriving Inhabited

structure Heap where
  tr : Tr Blk
  next : Nat

def Heap.get (H : Heap) (b : Nat) : Blk := H.tr.get .dead b
def Heap.put (H : Heap) (b : Nat) (x : Blk) : Heap := Tr.strict (H.tr.set .dead b x) fun t => ⟨t, H.next⟩
def Heap.new (H : Heap) (x : Blk) : Heap := Tr.strict (H.tr.set .dead H.next x) fun t => ⟨t, H.next + 1⟩

/-! ### Values without addresses -/
def flat0 : Value → Bool
  | .bool _ | .int _ _ | .float _ _ | .complex _ _ _ | .string _ | .pointer none | .slice none 0 0 | .map none | .chan none | .nilFunc | .nilIface => true
  | .func (.func _) f c => f.toList.isEmpty && c.toList.isEmpty
  | _ => false
def flat : Value → Bool
  | .agg cs => cs.toList.all flat0
  | .tuple cs => cs.toList.all flat0
  | .iface _ v => flat0 v
  | v => flat0 v

/-- What a computation comes to that asks nothing of the world. -/
def pureVal (P : Program) : Sem α → Option α
  | .pure a => some a
  | .program k => pureVal P (k P)
  | .mark _ k => pureVal P k
  | _ => none

def ev (P : Program) (t : Tr Value) : Operand → Option Value
  | .tmp i => some (t.get undef i)
  | .const v => cond (flat v) (some v) none
  | .global g => cond (Nat.blt g P.globals.size) (some (.pointer (some ⟨g, 0, none⟩))) none
  | .func f => some (.func (.func f) #[] #[])

def evs (P : Program) (t : Tr Value) : List Operand → Option (List Value)
  | [] => some []
  | x :: xs => match ev P t x with
    | some v => match evs P t xs with
      | some vs => some (v :: vs)
      | none => none
    | none => none

/-! ### Memory -/
def loadN (H : Heap) (b o n : Nat) : Option (List Value) :=
  match H.get b with
  | .cells cs _ _ _ _ => cond (Nat.ble (o + n) cs.length) (some ((cs.drop o).take n)) none
  | _ => none

def splice (cs : List Value) (o : Nat) (vs : List Value) : List Value := cs.take o ++ (vs ++ cs.drop (o + vs.length))

def storeN (H : Heap) (b o : Nat) (vs : List Value) : Option Heap :=
  match H.get b with
  | .cells cs el sz slack ro => cond (!ro && Nat.ble (o + vs.length) cs.length)
      (some (forceL (splice cs o vs) fun cs' => H.put b (.cells cs' el sz slack ro))) none
  | _ => none

def newCells (H : Heap) (cs : List Value) (el : TypeId) (sz : Nat) (slack : Bool) : Heap :=
  forceL cs fun cs' => H.new (.cells cs' el sz slack false)

def isAggT (P : Program) (t : TypeId) : Option Bool :=
  match P.underlying t with
  | some (.struct _) | some (.array _ _) => some true
  | some _ => some false
  | none => none

def sizeT (P : Program) (t : TypeId) : Option Nat := (P.info? t).map (·.size)

def zeroT (P : Program) (t : TypeId) : Option Value :=
  match P.info? t with
  | some i => match i.zero with
    | some v => cond (flat v && Nat.beq v.cells.size i.size) (some v) none
    | none => none
  | none => none

/-- A whole variable. -/
def loadV (P : Program) (H : Heap) (t : TypeId) (b o : Nat) : Option Value :=
  match isAggT P t with
  | some true => match sizeT P t with
    | some n => match loadN H b o n with
      | some cs => some (.agg cs.toArray)
      | none => none
    | none => none
  | some false => match loadN H b o 1 with
    | some [v] => some v
    | _ => none
  | none => none

def oneCells : List Value → Bool
  | [] => true
  | v :: vs => v.oneCell' && oneCells vs

def storeV (P : Program) (H : Heap) (t : TypeId) (b o : Nat) (v : Value) : Option Heap :=
  match sizeT P t with
  | some n => cond (Nat.beq v.cells.size n && oneCells v.cells.toList) (storeN H b o v.cells.toList) none
  | none => none

def newV (H : Heap) (t : TypeId) (v : Value) : Heap := newCells H v.cells.toList t v.cells.size false

/-! ### What an operation comes to -/
inductive Nx where
  | val (v : Value) (H : Heap)
  | skip (H : Heap)
  | enter (f : FuncId) (args : List Value) (H : Heap)
  | yield (l : Nat) (args : List Value) (H : Heap)

def partV (P : Program) (t : TypeId) (cs : Array Value) (off : Nat) : Option Value :=
  match isAggT P t with
  | some true => match sizeT P t with
    | some n => some (.agg (cs.extract off (off + n)))
    | none => none
  | some false => cs[off]?
  | none => none

def fieldV (P : Program) (xt : TypeId) (x : Value) (f : Nat) : Option Value :=
  match P.underlying xt with
  | some (.struct fs) => match fs[f]?, x with
    | some fd, .agg cs => partV P fd.type cs fd.offset
    | _, _ => none
  | _ => none

def placesOf (P : Program) : List Field → Option (List (Nat × Nat))
  | [] => some []
  | f :: fs => match sizeT P f.type with
    | some n => match placesOf P fs with
      | some l => some ((f.offset, n) :: l)
      | none => none
    | none => none

def buildV (P : Program) (t : TypeId) (parts : List (Nat × Value)) : Option Value :=
  match zeroT P t with
  | none => none
  | some z => match P.underlying t with
    | some (.struct fs) => match placesOf P fs.toList with
      | some pl => match Instr.fill (fun i => pl[i]?) z.cells parts with
        | some cs => some (.agg cs)
        | none => none
      | none => none
    | some (.array _ e) => match sizeT P e with
      | some n => match Instr.fill (fun i => some (i * n, n)) z.cells parts with
        | some cs => some (.agg cs)
        | none => none
      | none => none
    | _ => none

def repCells (z : List Value) : Nat → List Value
  | 0 => []
  | n + 1 => z ++ repCells z n

def buildSliceV (P : Program) (H : Heap) (t : TypeId) (len : Nat) (parts : List (Nat × Value)) : Option Nx :=
  match P.underlying t with
  | some (.slice e) => match sizeT P e with
    | some n => match zeroT P e with
      | some z => cond (Nat.ble (len * n) 16777216)
          (match Instr.fill (fun i => some (i * n, n)) (repCells z.cells.toList len).toArray parts with
           | some cs => some (.val (.slice (some ⟨H.next, 0, none⟩) len len) (newCells H cs.toList e n false))
           | none => none) none
      | none => none
    | none => none
  | _ => none

def boolV (b : Bool) : Value := .bool b

/-- '==' where a value bears an address. -/
def eqAddr (P : Program) (H : Heap) (t : TypeId) (a b : Value) : Option Bool :=
  match P.underlying t, a, b with
  | some (.pointer _), .pointer none, .pointer y => some y.isNone
  | some (.pointer _), .pointer (some _), .pointer none => some false
  | some (.pointer e), .pointer (some x), .pointer (some y) =>
    match sizeT P e with
    | some n => cond (Nat.beq n 0 || x.spot.isSome || y.spot.isSome) none
        (cond (Nat.beq x.block y.block) (some (Nat.beq x.off y.off))
          (match H.get x.block, H.get y.block with
           | .cells _ _ _ _ false, .cells _ _ _ _ false => some false
           | _, _ => none))
    | none => none
  | some (.slice _), .slice none _ _, .slice y _ _ => some y.isNone
  | some (.slice _), .slice (some _) _ _, .slice none _ _ => some false
  | some (.map _ _), .map none, .map y => some y.isNone
  | some (.map _ _), .map (some _), .map none => some false
  | some (.func _ _ _), .nilFunc, .nilFunc => some true
  | some (.func _ _ _), .nilFunc, .func _ _ _ => some false
  | some (.func _ _ _), .func _ _ _, .nilFunc => some false
  | some (.interface _), .nilIface, .iface _ _ => some false
  | some (.interface _), .iface _ _, .nilIface => some false
  | _, _, _ => none

def binOpV (P : Program) (H : Heap) (op : BinOp) (xt : TypeId) (x y : Operand) (a b : Value) : Option Value :=
  cond (flat a && flat b)
    (match pureVal P (do eqGuard op xt x y a b; binOp op xt a b) with
     | some v => cond (flat v) (some v) none
     | none => none)
    (match op with
     | .eql => match eqAddr P H xt a b with
       | some r => some (.bool r)
       | none => none
     | .neq => match eqAddr P H xt a b with
       | some r => some (.bool !r)
       | none => none
     | _ => none)

def natV : Value → Option Nat
  | .int _ (.ofNat n) => some n
  | _ => none

def optNat : Option Value → Nat → Option Nat
  | none, d => some d
  | some v, _ => natV v

def evOpt (P : Program) (t : Tr Value) : Option Operand → Option (Option Value)
  | none => some none
  | some x => match ev P t x with
    | some v => some (some v)
    | none => none

/-- Do a slice's cells reach its block's end? -/
def reaches (o cap size n : Nat) : Bool := Nat.beq (o + cap * size) n

def bounds3 (len cap : Nat) (lo hi mx : Option Value) : Option (Nat × Nat × Nat) :=
  match optNat mx cap, optNat hi len, optNat lo 0 with
  | some m, some h, some l => cond (Nat.ble l h && (Nat.ble h m && (Nat.ble m cap && (mx.isNone || hi.isSome)))) (some (l, h, m)) none
  | _, _, _ => none

def sliceV (P : Program) (H : Heap) (t : TypeId) (x : Value) (lo hi mx : Option Value) : Option Value :=
  match P.underlying t, x with
  | some .string, .string s => cond mx.isNone
      (match bounds3 s.size s.size lo hi mx with
       | some (l, h, _) => some (.string (s.extract l h))
       | none => none) none
  | some (.slice e), .slice none len cap =>
    (match bounds3 len cap lo hi mx, sizeT P e with
     | some (l, h, m), some _ => some (.slice none (h - l) (m - l))
     | _, _ => none)
  | some (.slice e), .slice (some ad) len cap =>
    (match bounds3 len cap lo hi mx, sizeT P e, H.get ad.block with
     | some (l, h, m), some size, .cells cs _ sz slack _ =>
       cond slack
         (cond (Nat.beq size sz && (reaches ad.off cap size cs.length && mx.isNone))
           (some (.slice (some ⟨ad.block, ad.off + l * size, none⟩) (h - l) (m - l))) none)
         (some (.slice (some ⟨ad.block, cond (Nat.beq m l) ad.off (ad.off + l * size), none⟩) (h - l) (m - l)))
     | _, _, _ => none)
  | some (.array n e), .pointer (some ad) =>
    (match bounds3 n n lo hi mx, sizeT P e, H.get ad.block with
     | some (l, h, m), some size, .cells _ _ _ false _ =>
       some (.slice (some ⟨ad.block, cond (Nat.beq m l) ad.off (ad.off + l * size), none⟩) (h - l) (m - l))
     | _, _, _ => none)
  | _, _ => none

def fieldAddrV (P : Program) (s : TypeId) (x : Value) (f : Nat) : Option Value :=
  match P.underlying s, x with
  | some (.struct fs), .pointer (some a) => match fs[f]? with
    | some fd => match sizeT P fd.type with
      | some n => cond (Nat.beq n 0 || a.spot.isSome) none (some (.pointer (some ⟨a.block, a.off + fd.offset, none⟩)))
      | none => none
    | none => none
  | _, _ => none

def indexAddrV (P : Program) (t : TypeId) (x i : Value) : Option Value :=
  match P.underlying t, x, natV i with
  | some (.slice e), .slice (some a) len _, some k => match sizeT P e with
    | some n => cond (Nat.blt k len && a.spot.isNone) (some (.pointer (some ⟨a.block, a.off + k * n, none⟩))) none
    | none => none
  | some (.array len e), .pointer (some a), some k => match sizeT P e with
    | some n => cond (Nat.blt k len && a.spot.isNone) (some (.pointer (some ⟨a.block, a.off + k * n, none⟩))) none
    | none => none
  | _, _, _ => none

def makeSliceV (P : Program) (H : Heap) (t : TypeId) (l c : Value) : Option Nx :=
  match P.underlying t, natV l, natV c with
  | some (.slice e), some n, some m => match P.info? e with
    | some i => match zeroT P e with
      | some z => cond (Nat.ble n m && Nat.ble (i.bytes * m) 281474976710656 && Nat.blt m 4611686018427387904)
          (some (.val (.slice (some ⟨H.next, 0, none⟩) n m) (newCells H (repCells z.cells.toList m) e i.size false))) none
      | none => none
    | none => none
  | _, _, _ => none

/-! ### Maps: keys without addresses -/
def keyEntries : List MapEntry → List MapEntry
  | [] => []
  | e :: es => { e with val := undef } :: keyEntries es
def flatKeys : List MapEntry → Bool
  | [] => true
  | e :: es => flat e.key && flatKeys es

/-- Where a key stands. -/
def findV (P : Program) (empty : Bool) (kt : TypeId) (k : Value) (es : List MapEntry) : Option (Option Nat) :=
  cond (flat k && flatKeys es)
    (pureVal P (do Instr.checkKey empty 10000 kt k; let r ← Instr.findKey kt k (keyEntries es); pure (r.map (·.1)))) none

def lookupV (P : Program) (H : Heap) (t : TypeId) (x k : Value) (ok : Bool) : Option Value :=
  match P.underlying t with
  | some (.map kt et) =>
    let go (es : List MapEntry) : Option Value :=
      match findV P es.isEmpty kt k es with
      | some (some i) => match es[i]? with
        | some e => some (cond ok (.tuple #[e.val, .bool true]) e.val)
        | none => none
      | some none => match zeroT P et with
        | some z => some (cond ok (.tuple #[z, .bool false]) z)
        | none => none
      | none => none
    match x with
    | .map none => go []
    | .map (some r) => match H.get r with
      | .map es _ => go es
      | _ => none
    | _ => none
  | _ => none

def setVal (es : List MapEntry) (i : Nat) (v : Value) : List MapEntry := es.modify i fun e => { e with val := v }

def mapSet (P : Program) (H : Heap) (t : TypeId) (x k v : Value) : Option Heap :=
  match P.underlying t, x with
  | some (.map kt _), .map (some r) => match H.get r with
    | .map es clock => match findV P false kt k es with
      | some (some i) => match es[i]? with
        | some e => cond (Instr.sameBits 10000 e.key k) (some (forceL (es.modify i fun e => { e with key := k, val := v }) fun l => H.put r (.map l clock))) none
        | none => none
      | some none => some (forceL (es ++ [{ key := k, val := v, born := clock }]) fun l => H.put r (.map l (clock + 1)))
      | none => none
    | _ => none
  | _, _ => none

def mapEntryV (P : Program) (H : Heap) (t : TypeId) (x k : Value) : Option Nx :=
  match P.underlying t, x with
  | some (.map kt et), .map (some r) => match H.get r with
    | .map es clock => match findV P false kt k es with
      | some (some i) => match es[i]? with
        | some e => cond (Instr.sameBits 10000 e.key k) (some (.val (.tuple #[e.val, goInt e.born]) (forceL (es.modify i fun e => { e with key := k }) fun l => H.put r (.map l clock)))) none
        | none => none
      | some none => match zeroT P et with
        | some z => some (.val (.tuple #[z, goInt clock]) (forceL (es ++ [{ key := k, val := z, born := clock }]) fun l => H.put r (.map l (clock + 1))))
        | none => none
      | none => none
    | _ => none
  | _, _ => none

def bornAt (s : Nat) : List MapEntry → Option Nat
  | [] => none
  | e :: es => cond (Nat.beq e.born s) (some 0) ((bornAt s es).map (· + 1))

def entryStoreV (H : Heap) (x s v : Value) : Option Heap :=
  match x, natV s with
  | .map (some r), some n => match H.get r with
    | .map es clock => match bornAt n es with
      | some i => some (forceL (setVal es i v) fun l => H.put r (.map l clock))
      | none => none
    | _ => none
  | _, _ => none

def deleteV (P : Program) (H : Heap) (t : TypeId) (x k : Value) : Option Heap :=
  match P.underlying t, x with
  | some (.map kt _), .map none => match findV P true kt k [] with
    | some _ => some H
    | none => none
  | some (.map kt _), .map (some r) => match H.get r with
    | .map es clock => match findV P es.isEmpty kt k es with
      | some (some i) => some (forceL (es.eraseIdx i) fun l => H.put r (.map l clock))
      | some none => some H
      | none => none
    | _ => none
  | _, _ => none

def rangeV (P : Program) (H : Heap) (t : TypeId) (x : Value) : Option Nx :=
  match P.underlying t, x with
  | some (.map _ _), .map none => some (.val (.pointer (some ⟨H.next, 0, none⟩)) (H.new (.iter none 0 [] 0)))
  | some (.map _ _), .map (some m) => match H.get m with
    | .map _ clock => some (.val (.pointer (some ⟨H.next, 0, none⟩)) (H.new (.iter (some m) clock [] clock)))
    | _ => none
  | _, _ => none

/-- The next entry of a map: only where there is no choice. -/
def nextV (H : Heap) (it : Value) : Option Nx :=
  match it with
  | .pointer (some ⟨r, 0, _⟩) => match H.get r with
    | .iter none _ _ _ => some (.val (.tuple #[.bool false]) H)
    | .iter (some m) since seen last => match H.get m with
      | .map es clock =>
        cond (!seen.isEmpty && !es.isEmpty && es.all (fun e => Nat.ble last e.born)) none
          (match es.filter (fun e => !seen.contains e.born && Nat.blt e.born since), es.filter (fun e => !seen.contains e.born && !Nat.blt e.born since) with
           | [], [] => some (.val (.tuple #[.bool false]) H)
           | [e], [] => some (.val (.tuple #[.bool true, e.key, e.val]) (H.put r (.iter (some m) since (seen ++ [e.born]) clock)))
           | _, _ => none)
      | _ => none
    | _ => none
  | _ => none

def bornFirst (s : Nat) : List MapEntry → Option MapEntry
  | [] => none
  | e :: es => cond (Nat.beq e.born s) (some e) (bornFirst s es)
/-- The entry at which an iterator stands. -/
def entryV (H : Heap) (it : Value) : Option Value :=
  match it with
  | .pointer (some ⟨r, 0, _⟩) => match H.get r with
    | .iter (some m) _ seen stepped => match H.get m, seen.getLast? with
      | .map es clock, some s => cond (Nat.beq clock stepped) (match bornFirst s es with
        | some e => some (.tuple #[e.key, e.val])
        | none => none) none
      | _, _ => none
    | _ => none
  | _ => none

/-! ### The builtin functions -/
def srcLen : Value → Option Nat
  | .slice _ n _ => some n
  | .string s => some s.size
  | _ => none
def byteCells (s : ByteArray) (n : Nat) : List Value := ((s.extract 0 n).data.toList).map fun b => .int .u8 b.toNat
def srcCells (H : Heap) (size n : Nat) : Value → Option (List Value)
  | .slice (some a) _ _ => cond a.spot.isNone (loadN H a.block a.off (n * size)) none
  | .slice none _ _ => some []
  | .string s => some (byteCells s n)
  | _ => none

def noInts (P : Program) (rest : List TypeId) : Bool :=
  match rest with
  | xt :: _ => (match P.underlying xt with | some (.int _) => false | none => false | _ => true)
  | [] => true

def appendTo (H : Heap) (e : TypeId) (size : Nat) (base : Option Addr) (len cap n : Nat) (new : List Value) : Option Nx :=
  match base with
  | none => cond (Nat.beq len 0 && Nat.beq cap 0)
      (cond (Nat.beq n 0) (some (.val (.slice none 0 0) H))
        (some (.val (.slice (some ⟨H.next, 0, none⟩) n n) (newCells H new e size true)))) none
  | some a =>
    match H.get a.block with
    | .cells cs el sz slack ro =>
      cond (Nat.ble (len + n) cap)
        (cond (Nat.beq n 0) (some (.val (.slice base (len + n) cap) H))
          (match storeN H a.block (a.off + len * size) new with
           | some H' => some (.val (.slice base (len + n) cap) H')
           | none => none))
        (match loadN H a.block a.off (len * size) with
         | some old =>
           cond slack
             (cond (Nat.beq sz size && (Nat.beq el e && (!ro && (reaches a.off cap size cs.length && Nat.beq (a.off % size) 0))))
               (some (.val (.slice (some ⟨H.next, 0, none⟩) (len + n) (len + n)) (newCells (H.put a.block .dead) (old ++ new) e size true))) none)
             (some (.val (.slice (some ⟨H.next, 0, none⟩) (len + n) (len + n)) (newCells H (old ++ new) e size true)))
         | none => none)
    | _ => none

def appendV (P : Program) (H : Heap) (ts : List TypeId) (s x : Value) : Option Nx :=
  match ts with
  | st :: rest =>
    match P.underlying st with
    | some (.slice e) =>
      (match P.info? e, zeroT P e, srcLen x, s with
      | some i, some _, some n, .slice base len cap =>
        (match srcCells H i.size n x with
        | some new => cond (noInts P rest && (Nat.ble ((2 * (len + n) + 1024) * i.bytes) 281474976710656 && (Nat.blt 0 i.bytes && (Nat.blt (len + n) 4611686018427387904 && (oneCells new && Nat.beq new.length (n * i.size))))))
            (appendTo H e i.size base len cap n new) none
        | none => none)
      | _, _, _, _ => none)
    | _ => none
  | [] => none

def copyV (P : Program) (H : Heap) (ts : List TypeId) (d s : Value) : Option Nx :=
  match ts with
  | dt :: _ =>
    match P.underlying dt with
    | some (.slice e) =>
      match sizeT P e, d, srcLen s with
      | some size, .slice base len _, some sl =>
        let n := Nat.min sl len
        (match srcCells H size n s with
        | some cs => match base with
          | none => some (.val (goInt n) H)
          | some a => cond (a.spot.isNone && oneCells cs)
            (cond (Nat.beq n 0) (some (.val (goInt n) H))
              (match storeN H a.block a.off cs with
               | some H' => some (.val (goInt n) H')
               | none => none)) none
        | none => none)
      | _, _, _ => none
    | _ => none
  | [] => none

def clearV (P : Program) (H : Heap) (ts : List TypeId) (x : Value) : Option Heap :=
  match ts with
  | t :: _ => match P.underlying t, x with
    | some _, .slice none _ _ => some H
    | some (.slice e), .slice (some a) n _ => cond (Nat.beq n 0) (some H) (match zeroT P e with
      | some z => cond (a.spot.isNone && oneCells z.cells.toList) (storeN H a.block a.off (repCells z.cells.toList n)) none
      | none => none)
    | some (.map _ _), .map none => some H
    | _, _ => none
  | [] => none

def lenV (P : Program) (H : Heap) (ts : List TypeId) (x : Value) : Option Value :=
  match ts with
  | t :: _ => match P.underlying t, x with
    | some .string, .string s => some (goInt s.size)
    | some (.array n _), _ => some (goInt n)
    | some (.slice _), .slice _ n _ => some (goInt n)
    | some (.map _ _), .map none => some (goInt 0)
    | some (.map _ _), .map (some r) => match H.get r with
      | .map es _ => some (goInt es.length)
      | _ => none
    | some (.pointer arr), _ => match P.underlying arr with
      | some (.array n _) => some (goInt n)
      | _ => none
    | _, _ => none
  | [] => none

def capV (P : Program) (H : Heap) (ts : List TypeId) (x : Value) : Option Value :=
  match ts with
  | t :: _ => match P.underlying t, x with
    | some (.slice _), .slice none _ _ => some (goInt 0)
    | some (.slice _), .slice (some a) _ c => match H.get a.block with
      | .cells _ _ _ false _ => some (goInt c)
      | _ => none
    | _, _ => none
  | [] => none

def bytesOfCells : List Value → ByteArray → Option ByteArray
  | [], s => some s
  | .int .u8 n :: vs, s => bytesOfCells vs (s.push (UInt8.ofNat n.toNat))
  | _ :: _, _ => none

/-- A string out of a row's own bytes (unsafe.String): nobody writes there any more. -/
def unsafeStringV (P : Program) (H : Heap) (ts : List TypeId) (p n : Value) : Option Nx :=
  match ts, p, natV n with
  | _ :: _, .pointer none, some 0 => some (.val (.string .empty) H)
  | pt :: _, .pointer (some a), some k =>
    (match P.underlying pt, H.get a.block with
     | some (.pointer u), .cells cs el sz slack false =>
       cond (Nat.blt 0 k && (Nat.beq el u && (Nat.beq (P.cellsOf u) 1 && (Nat.ble (a.off + k) cs.length && Nat.blt k 4611686018427387904))))
         (match bytesOfCells ((cs.drop a.off).take k) .empty with
          | some s => some (.val (.string s) (H.put a.block (.cells cs el sz slack true)))
          | none => none) none
     | _, _ => none)
  | _, _, _ => none

def builtinV (P : Program) (H : Heap) (b : Builtin) (ts : List TypeId) (type : TypeId) (args : List Value) : Option Nx :=
  match b, args with
  | .append, [s, x] => appendV P H ts s x
  | .copy, [d, s] => copyV P H ts d s
  | .len, [x] => (lenV P H ts x).map (.val · H)
  | .cap, [x] => (capV P H ts x).map (.val · H)
  | .delete, [m, k] => match ts with
    | t :: _ => (deleteV P H t m k).map (.val (.tuple #[]) ·)
    | [] => none
  | .max, as => cond (as.all flat) (match pureVal P (Builtin.max_ ts.toArray type as.toArray) with
    | some v => cond (flat v) (some (.val v H)) none
    | none => none) none
  | .min, as => cond (as.all flat) (match pureVal P (Builtin.min_ ts.toArray type as.toArray) with
    | some v => cond (flat v) (some (.val v H)) none
    | none => none) none
  | .unsafeSliceData, [.slice none _ _] => some (.val (.pointer none) H)
  | .unsafeSliceData, [.slice (some a) _ c] => cond (Nat.blt 0 c) (some (.val (.pointer (some a)) H)) none
  | .unsafeString, [p, n] => unsafeStringV P H ts p n
  | .clear, [x] => (clearV P H ts x).map (.val (.tuple #[]) ·)
  | _, _ => none

def stringBytesV (H : Heap) (e : TypeId) (s : ByteArray) : Nx :=
  .val (.slice (some ⟨H.next, 0, none⟩) s.size s.size) (forceL (byteCells s s.size) fun cs => H.new (.cells cs e 1 true true))

/-- Does a row of a type hold a variable of another one at this place? Only where it is one of that very type. -/
def holdsV (P : Program) (H : Heap) (a : Addr) (u : TypeId) : Bool :=
  match H.get a.block with
  | .cells cs el sz _ _ => Nat.beq el u && (Nat.blt 0 (P.cellsOf u) && (Nat.beq sz (P.cellsOf u) && (Nat.beq (a.off % P.cellsOf u) 0 && Nat.ble (a.off + P.cellsOf u) cs.length)))
  | _ => false

def convertV (P : Program) (H : Heap) (src dst : TypeId) (x : Value) : Option Nx :=
  match P.underlying src, P.underlying dst, x with
  | some _, some (.slice e), .string s => match P.underlying e with
    | some (.int .u8) => cond (Nat.blt s.size 4611686018427387904) (some (stringBytesV H e s)) none
    | _ => none
  | some (.slice e), some .string, .slice none _ _ => match P.underlying e with
    | some (.int .u8) => some (.val (.string .empty) H)
    | _ => none
  | some (.slice e), some .string, .slice (some a) len _ => match P.underlying e with
    | some (.int .u8) => cond a.spot.isNone (match loadN H a.block a.off len with
      | some cs => match bytesOfCells cs .empty with
        | some s => some (.val (.string s) H)
        | none => none
      | none => none) none
    | _ => none
  | some (.pointer t), some .unsafePointer, .pointer (some a) =>
    cond (holdsV P H a t) (some (.val x H)) none
  | some .unsafePointer, some (.pointer u), .pointer (some a) =>
    cond (holdsV P H a u) (some (.val x H)) none
  | _, _, _ => cond (flat x) (match pureVal P (convert src dst x) with
    | some v => cond (flat v) (some (.val v H)) none
    | none => none) none

/-- A call. -/
def callV (P : Program) (t : Tr Value) (H : Heap) (c : Call) (type : TypeId) : Option Nx :=
  match evs P t c.args.toList with
  | none => none
  | some args => match c.callee with
    | .builtin b => builtinV P H b c.argTypes.toList type args
    | .invoke _ _ => none
    | .value f => match ev P t f with
      | some (.func (.func g) first captured) => some (.enter g (first.toList ++ (args ++ captured.toList)) H)
      | some (.func (.yield l) first _) => cond first.toList.isEmpty (some (.yield l args H)) none
      | _ => none

def evParts (P : Program) (t : Tr Value) : List (Nat × Operand) → Option (List (Nat × Value))
  | [] => some []
  | (i, x) :: xs => match ev P t x with
    | some v => match evParts P t xs with
      | some vs => some ((i, v) :: vs)
      | none => none
    | none => none

def nilChecked : Value → Bool
  | .pointer none | .nilIface | .nilFunc => false
  | .func (.method _) _ _ => false
  | .chan _ => false
  | _ => true

def vNx (H : Heap) : Option Value → Option Nx
  | some v => some (.val v H)
  | none => none
def sNx : Option Heap → Option Nx
  | some H => some (.skip H)
  | none => none

def opV (P : Program) (t : Tr Value) (H : Heap) (o : Oper) : Option Nx :=
  match o.op with
  | .move x | .assign x => vNx H (ev P t x)
  | .pick c a b => match ev P t c with
    | some (.bool true) => match ev P t b with
      | some _ => vNx H (ev P t a)
      | none => none
    | some (.bool false) => match ev P t a with
      | some _ => vNx H (ev P t b)
      | none => none
    | _ => none
  | .alloc e => match zeroT P e with
    | some z => some (.val (.pointer (some ⟨H.next, 0, none⟩)) (newV H e z))
    | none => none
  | .box e x => match ev P t x with
    | some v => some (.val (.pointer (some ⟨H.next, 0, none⟩)) (newV H e v))
    | none => none
  | .build ty ps => match evParts P t ps.toList with
    | some l => vNx H (buildV P ty l)
    | none => none
  | .buildSlice ty len ps => match evParts P t ps.toList with
    | some l => buildSliceV P H ty len l
    | none => none
  | .load ty a => match ev P t a with
    | some (.pointer (some ⟨b, o, none⟩)) => vNx H (loadV P H ty b o)
    | _ => none
  | .store ty a x => match ev P t a, ev P t x with
    | some (.pointer (some ⟨b, o, none⟩)), some v => sNx (storeV P H ty b o v)
    | _, _ => none
  | .nilCheck x => match ev P t x with
    | some v => cond (nilChecked v) (some (.val v H)) none
    | none => none
  | .binOp op xt x y _ => match ev P t x, ev P t y with
    | some a, some b => vNx H (binOpV P H op xt x y a b)
    | _, _ => none
  | .unOp op _ x => match ev P t x with
    | some a => cond (flat a) (match pureVal P (Op.unary op a) with
      | some v => cond (flat v) (some (.val v H)) none
      | none => none) none
    | none => none
  | .convert src dst x => match ev P t x with
    | some a => convertV P H src dst a
    | none => none
  | .makeInterface xt x => match ev P t x, P.underlying xt with
    | some _, some (.interface _) => none
    | some a, some _ => some (.val (.iface xt a) H)
    | _, _ => none
  | .makeFunc fn first captured => match evs P t first.toList, evs P t captured.toList with
    | some f, some c => match fn with
      | .yield _ => none
      | _ => some (.val (.func fn f.toArray c.toArray) H)
    | _, _ => none
  | .makeMap _ none => some (.val (.map (some H.next)) (H.new (.map [] 0)))
  | .makeSlice ty l c => match ev P t l, ev P t c with
    | some a, some b => makeSliceV P H ty a b
    | _, _ => none
  | .slice ty x lo hi mx => match ev P t x, evOpt P t lo, evOpt P t hi, evOpt P t mx with
    | some a, some l, some h, some m => vNx H (sliceV P H ty a l h m)
    | _, _, _, _ => none
  | .fieldAddr s x f => match ev P t x with
    | some a => vNx H (fieldAddrV P s a f)
    | none => none
  | .field xt x f => match ev P t x with
    | some a => vNx H (fieldV P xt a f)
    | none => none
  | .indexAddr ty x i => match ev P t x, ev P t i with
    | some a, some b => vNx H (indexAddrV P ty a b)
    | _, _ => none
  | .index xt x i => match ev P t x, ev P t i with
    | some a, some b => cond (flat a && flat b) (match pureVal P (Instr.index xt a b) with
      | some v => cond (flat v) (some (.val v H)) none
      | none => none) none
    | _, _ => none
  | .lookup xt x i ok => match ev P t x, ev P t i with
    | some a, some b => vNx H (lookupV P H xt a b ok)
    | _, _ => none
  | .mapUpdate ty m k x | .insert ty m k x => match ev P t m, ev P t k, ev P t x with
    | some a, some b, some c => sNx (mapSet P H ty a b c)
    | _, _, _ => none
  | .mapEntry ty m k => match ev P t m, ev P t k with
    | some a, some b => mapEntryV P H ty a b
    | _, _ => none
  | .entryStore _ m s x => match ev P t m, ev P t s, ev P t x with
    | some a, some b, some c => sNx (entryStoreV H a b c)
    | _, _, _ => none
  | .range xt x => match ev P t x with
    | some a => rangeV P H xt a
    | none => none
  | .next it false => match ev P t it with
    | some a => nextV H a
    | none => none
  | .entry it => match ev P t it with
    | some a => vNx H (entryV H a)
    | none => none
  | .extract x i => match ev P t x with
    | some (.tuple vs) => vNx H vs[i]?
    | _ => none
  | .call c => callV P t H c o.type
  | _ => none

/-! ### Code -/
inductive Ex where
  | normal
  | exit (id : Nat)
  | ret

def Ex.jump : Ex → Option Code
  | .normal => none
  | .exit id => some (.exit id)
  | .ret => some .ret

structure Out where
  e : Ex
  t : Tr Value
  m : List Nat
  H : Heap

/-- A library function taken by its contract. -/
abbrev Prim := FuncId → Option (List Value → Heap → Option (Value × Heap))

def ofArgs (l : List Value) : Tr Value := go l 0 .nil
where
  go : List Value → Nat → Tr Value → Tr Value
    | [], _, t => t
    | v :: vs, i, t => Tr.strict (t.set undef i v) fun t' => go vs (i + 1) t'

def setParams (N : Nat) : List Tmp → List Value → Tr Value → Option (Tr Value)
  | [], [], t => some t
  | p :: ps, v :: vs, t => cond (Nat.blt p N) (setParams N ps vs (t.set undef p v)) none
  | _, _, _ => none

def putV (N : Nat) (t : Tr Value) (d : Option Tmp) (v : Value) : Option (Tr Value) :=
  match d with
  | none => some t
  | some d => cond (Nat.blt d N) (Tr.strict (t.set undef d v) some) none

def wantedV (ops : Array Oper) (t : Tr Value) (o : Oper) : Bool :=
  match o.guard with
  | none => true
  | some (j, want) => match (ops[j]?).bind (·.dst) with
    | some d => match t.get undef d with
      | .bool b => b == want
      | _ => false
    | none => false

/-- Is what a guard asks known? -/
def guardKnown (ops : Array Oper) (t : Tr Value) (o : Oper) : Bool :=
  match o.guard with
  | none => true
  | some (j, _) => match (ops[j]?).bind (·.dst) with
    | some d => match t.get undef d with
      | .chan _ => false
      | _ => true
    | none => true

def takeMarks : List Nat → Heap → Option Heap
  | [], H => some H
  | m :: ms, H => match H.get m with
    | .marks => takeMarks ms (H.put m .dead)
    | _ => none

def resultV (P : Program) (t : Tr Value) (H : Heap) : ResultVar → Option Value
  | .tmp i => some (t.get undef i)
  | .cell i ty => match t.get undef i with
    | .pointer (some ⟨b, o, none⟩) => loadV P H ty b o
    | _ => none

def resultVs (P : Program) (t : Tr Value) (H : Heap) : List ResultVar → Option (List Value)
  | [] => some []
  | r :: rs => match resultV P t H r with
    | some v => match resultVs P t H rs with
      | some vs => some (v :: vs)
      | none => none
    | none => none

def oneOr : List Value → Value
  | [v] => v
  | vs => .tuple vs.toArray

/-- How a call is carried out: a function's, a loop's body. -/
structure Hands where
  call : FuncId → List Value → Heap → Option (Value × Heap)
  yield : Nat → List Value → Heap → Option (Value × Heap)
  bin : BinOp → TypeId → Value → Value → Option Value
  un : Op → List Value → Option Value

/-- Operations on what is not known that the hands may answer. -/
def unOps : Op → Option (List Operand)
  | .unOp _ _ x => some [x]
  | .convert _ _ x => some [x]
  | .index _ x i => some [x, i]
  | .indexAddr _ x i => some [x, i]
  | .load _ x => some [x]
  | .call c => match c.callee with
    | .builtin .len => some c.args.toList
    | _ => none
  | _ => none

/-- An operation; a comparison of what is not known is asked of the hands. -/
def opW (P : Program) (h : Hands) (t : Tr Value) (H : Heap) (o : Oper) : Option Nx :=
  match o.op with
  | .binOp op xt x y _ => match ev P t x, ev P t y with
    | some a, some b => match h.bin op xt a b with
      | some v => some (.val v H)
      | none => opV P t H o
    | _, _ => none
  | op => match unOps op with
    | some xs => match evs P t xs with
      | some vs => match h.un op vs with
        | some v => some (.val v H)
        | none => opV P t H o
      | none => opV P t H o
    | none => opV P t H o

def stepV (P : Program) (h : Hands) (N : Nat) (ops : Array Oper) (o : Oper) (t : Tr Value) (H : Heap) : Option (Tr Value × Heap) :=
  cond (guardKnown ops t o) (cond (wantedV ops t o)
    (match opW P h t H o with
     | some (.val v H') => match putV N t o.dst v with
       | some t' => some (t', H')
       | none => none
     | some (.skip H') => match putV N t o.dst undef with
       | some t' => some (t', H')
       | none => none
     | some (.enter f args H') => match h.call f args H' with
       | some (v, H'') => match putV N t o.dst v with
         | some t' => some (t', H'')
         | none => none
       | none => none
     | some (.yield l args H') => match h.yield l args H' with
       | some (v, H'') => match putV N t o.dst v with
         | some t' => some (t', H'')
         | none => none
       | none => none
     | none => none)
    (match putV N t o.dst undef with
     | some t' => some (t', H)
     | none => none)) none

def runOps (P : Program) (h : Hands) (N : Nat) (ops : Array Oper) : List Oper → Tr Value → Heap → Option (Tr Value × Heap)
  | [], t, H => some (t, H)
  | o :: os, t, H => match stepV P h N ops o t H with
    | some (t', H') => runOps P h N ops os t' H'
    | none => none

end Go.Eng
