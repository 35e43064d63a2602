/- The engine, part 11: code. Regions whose order is open; loops; calls; loops over functions. -/
import Derived.Test.YtkfkpiphbflokaaGreatDoorEA
namespace Go.Eng
open Go.RowKit (Below)

/-! ### Regions that draw their order -/
/-- Two values that are one, seen at once. -/
def sameK : IntKind → IntKind → Bool
  | .i64, .i64 | .u8, .u8 | .u64, .u64 | .i32, .i32 | .u32, .u32 | .i8, .i8 | .i16, .i16 | .u16, .u16 => true
  | _, _ => false
def sameV0 : Value → Value → Bool
  | .bool a, .bool b => a == b
  | .int j a, .int k b => sameK j k && a == b
  | .string a, .string b => a.data.toList == b.data.toList
  | .pointer none, .pointer none | .map none, .map none | .nilFunc, .nilFunc | .nilIface, .nilIface => true
  | .pointer (some ⟨a, o, none⟩), .pointer (some ⟨b, p, none⟩) => Nat.beq a b && Nat.beq o p
  | .slice none l c, .slice none m d => Nat.beq l m && Nat.beq c d
  | .slice (some ⟨a, o, none⟩) l c, .slice (some ⟨b, p, none⟩) m d => Nat.beq a b && (Nat.beq o p && (Nat.beq l m && Nat.beq c d))
  | .map (some a), .map (some b) => Nat.beq a b
  | .chan (some a), .chan (some b) => Nat.beq a b
  | .func (.func f) a b, .func (.func g) c d => Nat.beq f g && (a.toList.isEmpty && (b.toList.isEmpty && (c.toList.isEmpty && d.toList.isEmpty)))
  | _, _ => false
def sameL (f : Value → Value → Bool) : List Value → List Value → Bool
  | [], [] => true
  | a :: as, b :: bs => f a b && sameL f as bs
  | _, _ => false
/-- Values that hold values, so many deep. -/
def sameF : Nat → Value → Value → Bool
  | 0, a, b => sameV0 a b
  | n + 1, .agg a, .agg b => sameL (sameF n) a.toList b.toList
  | n + 1, .tuple a, .tuple b => sameL (sameF n) a.toList b.toList
  | n + 1, .func (.func f) a b, .func (.func g) c d => Nat.beq f g && (sameL (sameF n) a.toList c.toList && sameL (sameF n) b.toList d.toList)
  | n + 1, .func (.yield f) a b, .func (.yield g) c d => Nat.beq f g && (sameL (sameF n) a.toList c.toList && sameL (sameF n) b.toList d.toList)
  | n + 1, .iface s a, .iface t b => Nat.beq s t && sameF n a b
  | _ + 1, .nilFunc, .nilFunc => true
  | _ + 1, a, b => sameV0 a b
def sameV (a b : Value) : Bool := sameF 6 a b

/-- Operations that turn nothing. -/
def readsOnly : Op → Bool
  | .move _ | .assign _ | .pick .. | .build .. | .load .. | .nilCheck _ | .binOp .. | .unOp .. | .makeInterface .. | .makeFunc .. | .slice .. | .fieldAddr .. | .field ..
  | .indexAddr .. | .index .. | .lookup .. | .extract .. | .entry _ => true
  | .call c => (match c.callee with
    | .builtin .len | .builtin .cap | .builtin .unsafeSliceData | .builtin .max | .builtin .min => true
    | _ => false)
  | _ => false
def isIntT (P : Program) (t : TypeId) : Bool :=
  match P.underlying t with
  | some (.int _) => true
  | _ => false
def pureOp (P : Program) (op : Op) : Bool :=
  match op with
  | .convert s d _ => isIntT P s && isIntT P d
  | op => readsOnly op

/-- Operations that lay a row of their own, and nothing more. -/
def isFloat : Op → Bool
  | .alloc _ | .box .. | .buildSlice .. => true
  | _ => false

/-- Such a row, under a number that was kept for it. -/
def floatV (P : Program) (t : Tr Value) (id : Nat) (op : Op) : Option (Value × Blk) :=
  match op with
  | .alloc e => match zeroT P e with
    | some z => some (.pointer (some ⟨id, 0, none⟩), .cells z.cells.toList e z.cells.size false false)
    | none => none
  | .box e x => match ev P t x with
    | some v => some (.pointer (some ⟨id, 0, none⟩), .cells v.cells.toList e v.cells.size false false)
    | none => none
  | .buildSlice ty len ps => match evParts P t ps.toList with
    | some l => match P.underlying ty with
      | some (.slice e) => (match sizeT P e, zeroT P e with
        | some n, some z => cond (Nat.ble (len * n) 16777216)
            (match Instr.fill (fun i => some (i * n, n)) (repCells z.cells.toList len).toArray l with
             | some cs => some (.slice (some ⟨id, 0, none⟩) len len, .cells cs.toList e n false false)
             | none => none) none
        | _, _ => none)
      | _ => none
    | none => none
  | _ => none

/-- What comes ahead of an operation, by its edges: a number's bits. -/
def maskOf (acc : List Nat) : List Edge → Nat
  | [] => 0
  | e :: es => cond (Region.binds .any e) (2 ^ e.on ||| (acc.getD e.on 0 ||| maskOf acc es)) (maskOf acc es)
def masks : List Oper → List Nat → List Nat
  | [], acc => acc
  | o :: os, acc => masks os (acc ++ [maskOf acc o.after.toList])

def edgesBack (i : Nat) : List Edge → Bool
  | [] => true
  | e :: es => cond (Region.binds .any e) (Nat.blt e.on i) true && edgesBack i es
def allBack : Nat → List Oper → Bool
  | _, [] => true
  | i, o :: os => edgesBack i o.after.toList && allBack (i + 1) os

/-- The temporaries at which an operation looks. -/
def looks (ops : Array Oper) (o : Oper) : List Tmp := o.looksAt ops

/-- Of two operations one of which writes what the other one looks at or writes, the first one is ahead by an edge. -/
def clash (ops : Array Oper) (a b : Oper) : Bool := !(a.apart ops b)
def clashesOk (ops : Array Oper) (ms : List Nat) : Bool :=
  (List.range ops.size).all fun j => (List.range j).all fun i =>
    match ops[i]?, ops[j]? with
    | some a, some b => !(clash ops a b) || (ms.getD j 0).testBit i
    | _, _ => true

/-- One operation's step, as the run in the text's order found it: the temporaries that it saw; its kind (0: it turns nothing; 1: a row of its own; 2: all others); what was put; the row; the heap behind it. -/
structure Rec where
  t : Tr Value
  kind : Nat
  v : Value
  blk : Blk
  H : Heap

def Rec.pure (r : Rec) : Bool := Nat.beq r.kind 0
def Rec.float (r : Rec) : Bool := Nat.beq r.kind 1
def Rec.chain (r : Rec) : Bool := Nat.beq r.kind 2

structure Traced where
  rs : List Rec
  t : Tr Value
  H : Heap

def Traced.add (x : Traced) (r : Rec) : Traced := ⟨r :: x.rs, x.t, x.H⟩

def dstOf (d : Option Tmp) (t : Tr Value) : Value :=
  match d with
  | some i => t.get undef i
  | none => undef

/-- The run in the text's order. Row number i of its own gets the number id + i. -/
def trace (P : Program) (h : Hands) (N : Nat) (ops : Array Oper) (id : Nat) : Nat → List Oper → Tr Value → Heap → Option Traced
  | _, [], t, H => some ⟨[], t, H⟩
  | i, o :: os, t, H => cond (guardKnown ops t o)
    (cond (wantedV ops t o)
      (cond (isFloat o.op)
        (match floatV P t (id + i) o.op with
         | some (v, b) => (match putV N t o.dst v with
           | some t' => (match trace P h N ops id (i + 1) os t' (H.put (id + i) b) with
             | some x => some (x.add ⟨t, 1, v, b, H.put (id + i) b⟩)
             | none => none)
           | none => none)
         | none => none)
        (cond (pureOp P o.op)
          (match opW P h t H o with
           | some (.val v _) => (match putV N t o.dst v with
             | some t' => (match trace P h N ops id (i + 1) os t' H with
               | some x => some (x.add ⟨t, 0, v, .dead, H⟩)
               | none => none)
             | none => none)
           | _ => none)
          (match stepV P h N ops o t H with
           | some (t', H') => (match trace P h N ops id (i + 1) os t' H' with
             | some x => some (x.add ⟨t, 2, dstOf o.dst t', .dead, H'⟩)
             | none => none)
           | none => none)))
      (match putV N t o.dst undef with
       | some t' => (match trace P h N ops id (i + 1) os t' H with
         | some x => some (x.add ⟨t, 0, undef, .dead, H⟩)
         | none => none)
       | none => none)) none

/-- Rows of one's own that an operation has ahead of it, and that are not among the first 'from' operations. -/
def addFloats (id : Nat) (m : Nat) (from_ : Nat) : Nat → List Rec → Heap → Heap
  | _, [], H => H
  | i, r :: rs, H => addFloats id m from_ (i + 1) rs (cond (r.float && (m.testBit i && Nat.ble from_ i)) (H.put (id + i) r.blk) H)

/-- Behind the last operation of the last kind that is ahead by an edge. -/
def lowOf (m : Nat) : Nat → Nat → List Rec → Nat
  | acc, _, [] => acc
  | acc, i, r :: rs => lowOf m (cond (r.chain && m.testBit i) (i + 1) acc) (i + 1) rs
/-- Of the operations of the last kind none waits for j, up to here. -/
def freeTo (j : Nat) : Nat → List Rec → List Nat → Bool
  | n + 1, r :: rs, m :: ms => cond (r.chain && m.testBit j) false (freeTo j n rs ms)
  | _, _, _ => true

def stableAt (P : Program) (h : Hands) (ops : Array Oper) (o : Oper) (r : Rec) (H : Heap) : Bool :=
  cond (wantedV ops r.t o)
    (match opW P h r.t H o with
     | some (.val v _) => sameV v r.v
     | _ => false) true

/-- At a stage (behind p operations of the text) an operation that turns nothing comes to the same. -/
def stageOk (P : Program) (h : Hands) (ops : Array Oper) (id : Nat) (rs : List Rec) (ms : List Nat) (j : Nat) (o : Oper) (r : Rec) (m lo p : Nat) (H : Heap) : Bool :=
  cond (Nat.ble lo p && freeTo j p rs ms) (stableAt P h ops o r (addFloats id m p 0 rs H)) true

def stagesOk (P : Program) (h : Hands) (ops : Array Oper) (id : Nat) (rs : List Rec) (ms : List Nat) (j : Nat) (o : Oper) (r : Rec) (m lo : Nat) : Nat → List Rec → Bool
  | _, [] => true
  | i, c :: cs => cond c.chain (stageOk P h ops id rs ms j o r m lo (i + 1) c.H) true && stagesOk P h ops id rs ms j o r m lo (i + 1) cs

def stableAll (P : Program) (h : Hands) (ops : Array Oper) (id : Nat) (rs : List Rec) (ms : List Nat) (H0 : Heap) : Nat → List Oper → List Rec → Bool
  | j, o :: os, r :: rest =>
    cond r.pure (stageOk P h ops id rs ms j o r (ms.getD j 0) (lowOf (ms.getD j 0) 0 0 rs) 0 H0 && stagesOk P h ops id rs ms j o r (ms.getD j 0) (lowOf (ms.getD j 0) 0 0 rs) 0 rs) true && stableAll P h ops id rs ms H0 (j + 1) os rest
  | _, [], _ => true
  | _, _, [] => true

/-- Whoever is of the last kind has ahead of it, by edges, all of the last two kinds that the text has ahead. -/
def behind (m : Nat) : Nat → Nat → List Rec → Bool
  | _, 0, _ => true
  | _, _, [] => true
  | i, n + 1, r :: rs => (r.pure || m.testBit i) && behind m (i + 1) n rs
def chainOk (rs : List Rec) : Nat → List Rec → List Nat → Bool
  | i, r :: rest, m :: ms => (!r.chain || behind m 0 i rs) && chainOk rs (i + 1) rest ms
  | _, _, _ => true

def drawV (P : Program) (h : Hands) (N : Nat) (ops : Array Oper) (t : Tr Value) (H : Heap) : Option (Tr Value × Heap) :=
  let H0 : Heap := ⟨H.tr, H.next + ops.size⟩
  let ms := masks ops.toList []
  match trace P h N ops H.next 0 ops.toList t H0 with
  | none => none
  | some x =>
    cond (allBack 0 ops.toList && (clashesOk ops ms && (chainOk x.rs 0 x.rs ms && stableAll P h ops H.next x.rs ms H0 0 ops.toList x.rs)))
      (some (x.t, x.H)) none

/-! ### Code -/
def loopV (f : Tr Value → List Nat → Heap → Option Out) : Nat → Tr Value → List Nat → Heap → Option Out
  | 0, _, _, _ => none
  | k + 1, t, m, H => match f t m H with
    | some ⟨.normal, t', m', H'⟩ => loopV f k t' m' H'
    | r => r

/-- Behind a loop over a function: the jump that a round left. -/
def pendingV (pend : Option Code) (t : Tr Value) (m : List Nat) (H : Heap) : Option Out :=
  match pend with
  | none => some ⟨.normal, t, m, H⟩
  | some (.exit id) => some ⟨.exit id, t, m, H⟩
  | some .ret => some ⟨.ret, t, m, H⟩
  | _ => none

def notBusy : LoopState → Bool
  | .busy => false
  | _ => true
def isReady : LoopState → Bool
  | .ready => true
  | _ => false

def hasBody (P : Program) (g : FuncId) : Bool :=
  match P.funcs[g]? with
  | some fn => fn.body.isSome
  | none => false

def codeV (P : Program) (h : Hands) (L : Nat) (rnd : Option Nat) (N : Nat) : Code → Tr Value → List Nat → Heap → Option Out
  | .skip, t, m, H => some ⟨.normal, t, m, H⟩
  | .label _, t, m, H => some ⟨.normal, t, m, H⟩
  | .scope body, t, m, H => codeV P h L rnd N body t m H
  | .region _ ops draw, t, m, H =>
    match cond draw (drawV P h N ops t H) (runOps P h N ops ops.toList t H) with
    | some (t', H') => some ⟨.normal, t', m, H'⟩
    | none => none
  | .seq a b, t, m, H => match codeV P h L rnd N a t m H with
    | some ⟨.normal, t', m', H'⟩ => codeV P h L rnd N b t' m' H'
    | r => r
  | .cond c a b, t, m, H => match ev P t c with
    | some (.bool true) => codeV P h L rnd N a t m H
    | some (.bool false) => codeV P h L rnd N b t m H
    | _ => none
  | .block id body, t, m, H => match codeV P h L rnd N body t m H with
    | some ⟨.exit i, t', m', H'⟩ => cond (Nat.beq i id) (some ⟨.normal, t', m', H'⟩) (some ⟨.exit i, t', m', H'⟩)
    | r => r
  | .loop body, t, m, H => loopV (fun t m H => codeV P h L rnd N body t m H) L t m H
  | .rangeFunc f ps assign body, t, m, H =>
    match ev P t f with
    | some (.func (.func g) first captured) => cond (hasBody P g)
      (match (match rnd with
          | none => some (H.new .marks, H.next :: m)
          | some l0 => (match H.get l0 with | .loop .. => some (H, m) | _ => none)) with
      | some (H1, m1) =>
        (match h.call g (first.toList ++ (.func (.yield H1.next) #[] #[] :: captured.toList)) (H1.new (.loop .ready none N t ps.toList assign body)) with
        | some (_, H3) =>
          (match H3.get H1.next with
          | .loop st pend N' tm ps' as bd => cond (notBusy st) (pendingV pend t m1 (H3.put H1.next (.loop .exhausted pend N' tm ps' as bd))) none
          | _ => none)
        | none => none)
      | none => none) none
    | _ => none
  | .exit id, t, m, H => some ⟨.exit id, t, m, H⟩
  | .ret, t, m, H => some ⟨.ret, t, m, H⟩
  | .goto _, _, _, _ => none
  | .refuse _, _, _, _ => none

def endOk : Ex → Bool
  | .exit _ => false
  | _ => true

/-- A function's call: its body, then the marks of loops over functions; its results. -/
def funcV (P : Program) (h : Hands) (L : Nat) (fn : Func) (args : List Value) (H : Heap) : Option (Value × Heap) :=
  match fn.body with
  | none => none
  | some c => cond (Nat.ble args.length fn.ntmps && !(fn.name == "runtime.NumGoroutine"))
    (match codeV P h L none fn.ntmps c (ofArgs args) [] H with
     | some ⟨e, t, m, H'⟩ => cond (endOk e)
       (match takeMarks m H' with
        | some H'' => match resultVs P t H'' fn.results.toList with
          | some vs => some (oneOr vs, H'')
          | none => none
        | none => none) none
     | none => none) none

/-- A round of a loop over a function. -/
def yieldV (P : Program) (h : Hands) (L : Nat) (l : Nat) (args : List Value) (H : Heap) : Option (Value × Heap) :=
  match H.get l with
  | .loop _ _ N t ps assign body =>
    (match setParams N ps args t with
     | some t1 => (match codeV P h L (some l) N assign t1 [] H with
       | some ⟨.normal, t2, [], H2⟩ => (match H2.get l with
         | .loop st pend N' tm ps' as bd => cond (isReady st)
           (match codeV P h L (some l) N body t2 [] (H2.put l (.loop .busy pend N' tm ps' as bd)) with
            | some ⟨e, _, [], H3⟩ => (match H3.get l with
              | .loop _ _ N'' tm' ps'' as' bd' => some (.bool e.jump.isNone, H3.put l (.loop (cond e.jump.isNone .ready .done) e.jump N'' tm' ps'' as' bd'))
              | _ => none)
            | _ => none) none
         | _ => none)
       | _ => none)
     | none => none)
  | _ => none

/-- Functions of the library without a Go body. -/
inductive Ext where
  | row (e : Array Value → Sem Value)
  | same
  | makeNoZero (elem : TypeId)
  /-- A function of which it is known what it answers. -/
  | hook (f : List Value → Option Value)
  /-- The same; it may lay rows. -/
  | hookH (f : List Value → Heap → Option (Value × Heap))

def repAny : Nat → List Value
  | 0 => []
  | n + 1 => .chan (some 0) :: repAny n

def extV (P : Program) (k : Ext) (args : List Value) (H : Heap) : Option (Value × Heap) :=
  match k, args with
  | .row e, args => cond (args.all flat) (match pureVal P (e args.toArray) with
    | some v => cond (flat v) (some (v, H)) none
    | none => none) none
  | .same, [x] => some (x, H)
  | .makeNoZero el, [.int .i64 (.ofNat k)] => cond (Nat.blt k 1048576) (some (.slice (some ⟨H.next, 0, none⟩) k k, newCells H (repAny k) el 1 true)) none
  | .hook f, args => (match f args with
    | some v => some (v, H)
    | none => none)
  | .hookH f, args => f args H
  | _, _ => none

def prims (P : Program) : List (FuncId × Ext) → Prim
  | [], _ => none
  | (g, k) :: l, f => cond (Nat.beq g f) (some (extV P k)) (prims P l f)

def hands (P : Program) (pr : Prim) (bn : BinOp → TypeId → Value → Value → Option Value) (un : Op → List Value → Option Value) : Nat → Hands
  | 0 => ⟨fun _ _ _ => none, fun _ _ _ => none, bn, un⟩
  | n + 1 =>
    { call := fun f args H => match pr f with
        | some p => p args H
        | none => match P.funcs[f]? with
          | some fn => funcV P (hands P pr bn un n) n fn args H
          | none => none
      yield := fun l args H => yieldV P (hands P pr bn un n) n l args H
      bin := bn
      un := un }

end Go.Eng
