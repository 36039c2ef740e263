/- The compilation of the model's code for the abstract machine. No condition: definitions alone, over any program. -/
import Derived.Test.YtgmahpnjeclipaaGreatDoorAm1
namespace Go.AM

section
variable (P : Program)

def size? (t : TypeId) : Option Nat := (P.info? t).map (·.size)
def bytes? (t : TypeId) : Option Nat := (P.info? t).map (·.bytes)
def zero? (t : TypeId) : Option Value := (P.info? t).bind (·.zero)

/-- How a value of a type is read: one cell (none), or so many. -/
def kindT (t : TypeId) : Option (Option Nat) :=
  match P.underlying t, size? P t with
  | some (.struct _), some n => some (some n)
  | some (.array _ _), some n => some (some n)
  | some _, some _ => some none
  | _, _ => none

/-- The plain cells of fields that lie one behind the other, none nameless. -/
def flatFields (flat : TypeId → Option (List Leaf)) : Nat → List Field → Option (List Leaf)
  | _, [] => some []
  | off, f :: l =>
    if f.name != "_" && Nat.beq f.offset off then
      match flat f.type with
      | some x =>
        match flatFields flat (off + x.length) l with
        | some y => some (x ++ y)
        | none => none
      | none => none
    else none

/-- The plain cells of plain types: numbers, truth values, texts, and structs and arrays of these. -/
def flatL : Nat → TypeId → Option (List Leaf)
  | 0, _ => none
  | d + 1, t =>
    match P.underlying t, size? P t with
    | some (.int _), some n => if n = 1 then some [.int] else none
    | some .bool, some n => if n = 1 then some [.bool] else none
    | some .string, some n => if n = 1 then some [.str] else none
    | some (.struct fs), some n =>
      match flatFields (flatL d) 0 fs.toList with
      | some l => if P.stoodInHeld t = false ∧ l.length = n then some l else none
      | none => none
    | some (.array k e), some n =>
      match flatL d e, size? P e with
      | some l, some m => if l.length = m ∧ n = k * m then some (List.replicate k l).flatten else none
      | _, _ => none
    | _, _ => none

def eqT (t : TypeId) : Option EqT :=
  match P.underlying t with
  | some .bool => some .bool
  | some (.pointer _) => some .ptr
  | some (.slice _) => some .slice
  | some (.map _ _) => some .map
  | some (.func _ _ _) => some .func
  | some (.struct _) | some (.array _ _) =>
    match flatL P 8 t with
    | some l => if P.eqGuardType P.depth t = false then some (.agg l) else none
    | none => none
  | _ => none

/-- An element's size, its zero's cells, its bytes. -/
def elemT (e : TypeId) : Option (Nat × List Value × Nat) :=
  match size? P e, zero? P e, bytes? P e with
  | some st, some z, some b => if z.cells.toList.length = st then some (st, z.cells.toList, b) else none
  | _, _, _ => none

def placeT (fields : Array Field) (i : Nat) : Option (Nat × Nat) :=
  match fields[i]? with
  | some f => (size? P f.type).map fun n => (f.offset, n)
  | none => none

def compParts (place : Nat → Option (Nat × Nat)) : List (Nat × Operand) → Option (List (Nat × Nat × Operand))
  | [] => some []
  | (i, x) :: rest =>
    match place i, compParts place rest with
    | some (o, n), some l => some ((o, n, x) :: l)
    | _, _ => none

/-- The kind of a map's keys, and its element's zero. -/
def mapT (t : TypeId) : Option (Bool × Option Value) :=
  match P.underlying t with
  | some (.map k e) =>
    match P.underlying k with
    | some (.int _) => some (false, zero? P e)
    | some .string => some (true, zero? P e)
    | _ => none
  | _ => none

def compCall (c : Call) : Option AOp :=
  match c.callee with
  | .value (.func f) => some (.call f c.args.toList)
  | .value x => some (.callV x c.args.toList)
  | .builtin .append =>
    match c.args.toList, c.argTypes.toList with
    | [s, x], [t0, t1] =>
      match P.underlying t0, P.underlying t1 with
      | some (.slice e), some d1 =>
        match elemT P e with
        | some (st, z, b) => if 0 < b then some (.append st b z (match d1 with | .int _ => true | _ => false) s x) else none
        | none => none
      | _, _ => none
    | _, _ => none
  | .builtin .copy =>
    match c.args.toList, c.argTypes.toList with
    | [d, x], [t0, _] =>
      match P.underlying t0 with
      | some (.slice e) => (size? P e).map fun st => .copy st d x
      | _ => none
    | _, _ => none
  | .builtin .clear =>
    match c.args.toList, c.argTypes.toList with
    | [x], [t0] =>
      match P.underlying t0 with
      | some (.slice e) =>
        match elemT P e with
        | some (st, z, _) => some (.clearSl st z x)
        | none => none
      | some (.map _ _) => some (.clearMap x)
      | _ => none
    | _, _ => none
  | .builtin .delete =>
    match c.args.toList, c.argTypes.toList with
    | [m, k], t0 :: _ => (mapT P t0).map fun s => .delete s.1 m k
    | _, _ => none
  | .builtin .len =>
    match c.args.toList, c.argTypes.toList with
    | [x], [t0] =>
      match P.underlying t0 with
      | some .string => some (.lenStr x)
      | some (.array n _) => some (.lenC n)
      | some (.slice _) => some (.lenSl x)
      | some (.map _ _) => some (.lenMap x)
      | some (.pointer a) =>
        match P.underlying a with
        | some (.array n _) => some (.lenC n)
        | _ => none
      | _ => none
    | _, _ => none
  | .builtin .cap =>
    match c.args.toList, c.argTypes.toList with
    | [x], [t0] =>
      match P.underlying t0 with
      | some (.slice _) => some (.capSl x)
      | _ => none
    | _, _ => none
  | .builtin .max =>
    match c.args.toList with
    | x :: rest => some (.minmax true x rest)
    | [] => none
  | .builtin .min =>
    match c.args.toList with
    | x :: rest => some (.minmax false x rest)
    | [] => none
  | _ => none

def compOp (o : Op) : Option AOp :=
  match o with
  | .move x | .assign x => some (.move x)
  | .pick c a b => some (.pick c a b)
  | .alloc e => (zero? P e).map fun z => .alloc z.cells.toList
  | .box _ v => some (.box v)
  | .build t parts =>
    match zero? P t, P.underlying t with
    | some z, some (.struct fields) =>
      if fields.toList.all fun f => (size? P f.type).isSome then (compParts (placeT P fields) parts.toList).map fun l => .build z.cells.toList l else none
    | some z, some (.array _ e) =>
      match size? P e with
      | some st => (compParts (fun i => some (i * st, st)) parts.toList).map fun l => .build z.cells.toList l
      | none => none
    | _, _ => none
  | .buildSlice t len parts =>
    match P.underlying t with
    | some (.slice e) =>
      match elemT P e with
      | some (st, z, _) => if len * st ≤ 2 ^ 20 then (compParts (fun i => some (i * st, st)) parts.toList).map fun l => .buildSlice st len z l else none
      | none => none
    | _ => none
  | .insert t m k v => (mapT P t).map fun s => .mapUpdate s.1 m k v
  | .mapUpdate t m k v => (mapT P t).map fun s => .mapUpdate s.1 m k v
  | .load t a => (kindT P t).map fun n => .load n a
  | .store t a v => (size? P t).map fun n => .store n a v
  | .nilCheck x => some (.nilCheck x)
  | .binOp op t x y _ => some (.bin op (eqT P t) x y)
  | .unOp op _ x => some (.un op x)
  | .convert src dst x =>
    match P.underlying src, P.underlying dst with
    | some (.int _), some (.int k) => some (.conv k x)
    | some .string, some .string => some (.convStr x)
    | some .string, some (.slice e) =>
      match P.underlying e with
      | some (.int .u8) => some (.toBytes x)
      | _ => none
    | some (.slice e), some .string =>
      match P.underlying e with
      | some (.int .u8) => some (.toStr x)
      | _ => none
    | some (.slice e), some (.slice _) =>
      match P.underlying e with
      | some (.int .u8) => if src = dst then some (.same x) else none
      | _ => none
    | _, _ => none
  | .makeFunc (.func f) first captured => some (.makeFunc f first.toList captured.toList)
  | .makeMap _ none => some .makeMap
  | .makeSlice t l c =>
    match P.underlying t with
    | some (.slice e) =>
      match elemT P e with
      | some (st, z, b) => some (.makeSlice b z st l c)
      | none => none
    | _ => none
  | .slice t x lo hi mx =>
    match P.underlying t with
    | some (.array n e) => if mx.isNone then (size? P e).map fun st => .sliceArr n st x lo hi else none
    | some .string => if mx.isNone then some (.sliceStr x lo hi) else none
    | some (.slice e) => (size? P e).map fun st => .slice st x lo hi mx
    | _ => none
  | .fieldAddr t x f =>
    match P.underlying t with
    | some (.struct fields) =>
      match placeT P fields f with
      | some (o, n) => if n = 0 then none else some (.field o x)
      | none => none
    | _ => none
  | .field t x f =>
    match P.underlying t with
    | some (.struct fields) =>
      match fields[f]? with
      | some fd => (kindT P fd.type).map fun n => .part n fd.offset x
      | none => none
    | _ => none
  | .indexAddr t x i =>
    match P.underlying t with
    | some (.array n e) => (size? P e).map fun st => .indexArr n st x i
    | some (.slice e) => (size? P e).map fun st => .indexSl st x i
    | _ => none
  | .index t x i =>
    match P.underlying t with
    | some (.array n e) =>
      match size? P e, kindT P e with
      | some st, some k => some (.atArr n st k x i)
      | _, _ => none
    | some .string => some (.atStr x i)
    | _ => none
  | .lookup t m k ok =>
    match mapT P t with
    | some (s, some z) => some (.lookup s z m k ok)
    | _ => none
  | .range t x =>
    match P.underlying t with
    | some .string => some (.rangeStr x)
    | some (.map _ _) => some (.rangeMap x)
    | _ => none
  | .next it s => some (.next it s)
  | .extract x i => some (.extract x i)
  | .call c => compCall P c
  | _ => none

/-- A step, of a region's operations. -/
def compStep (ops : Array Oper) (o : Oper) : Option AStep :=
  match (compOp P o.op).getD .fail with
  | a =>
    match o.guard with
    | none => some ⟨o.dst, a, none⟩
    | some (j, b) =>
      match (ops[j]?).bind (·.dst) with
      | some t => some ⟨o.dst, a, some (t, b)⟩
      | none => none

def compSteps (ops : Array Oper) : List Oper → Option (List AStep)
  | [] => some []
  | o :: l =>
    match compStep P ops o, compSteps ops l with
    | some s, some r => some (s :: r)
    | _, _ => none

/-! ### Regions that draw their order -/

/-- What is ahead of an operation, as bits: of what is ahead of the others. -/
def befOne (b : List Nat) (o : Oper) : Nat := o.after.toList.foldl (fun s e => if Region.binds .any e then s ||| (2 ^ e.on ||| b.getD e.on 0) else s) 0

/-- What is ahead of each operation, as bits. -/
def befs : List Oper → List Nat → List Nat
  | [], acc => acc
  | o :: l, acc => befs l (acc ++ [befOne acc o])

/-- The slots that an operation looks at. -/
def slotsOf (s : AStep) : List Nat :=
  (match s.guard with | some (t, _) => [t] | none => []) ++ s.op.operands.filterMap fun | .tmp t => some t | _ => none

def isEff (s : AStep) : Bool := s.op.kind == 3
def isRead (s : AStep) : Bool := s.op.kind == 1

/-- Two operations of a plan, the first ahead of the second. -/
def pairOk (x y : Nat × AStep × Nat) : Bool :=
  x.1 != y.1 && (!x.2.2.testBit y.1 && ((!isEff x.2.1 || y.2.2.testBit x.1) &&
  ((match x.2.1.dst with
    | none => true
    | some d => y.2.1.dst != some d && (!(slotsOf y.2.1).contains d || y.2.2.testBit x.1)) &&
  (match y.2.1.dst with
   | none => true
   | some d => !(slotsOf x.2.1).contains d || (y.2.2.testBit x.1 && !isRead x.2.1)))))

def selfOk (x : Nat × AStep × Nat) : Bool :=
  !x.2.2.testBit x.1 &&
  match x.2.1.dst with
  | none => true
  | some d => !(slotsOf x.2.1).contains d

def planOk : List (Nat × AStep × Nat) → Bool
  | [] => true
  | x :: l => selfOk x && (l.all (pairOk x) && planOk l)

/-- How many operations that change memory are ahead. -/
def levelOf (steps : List AStep) (m : Nat) : Nat := (steps.zipIdx.filter fun (s, j) => isEff s && m.testBit j).length

/-- The numbers of a region's operations, in the order in which they are run here. -/
def planOf (steps : List AStep) (b : List Nat) : List Nat :=
  let lv := steps.zipIdx.map fun (_, i) => levelOf steps (b.getD i 0)
  let effs := (steps.zipIdx.filter fun (s, _) => isEff s).map (·.2)
  (List.range (effs.length + 1)).flatMap fun k =>
    ((steps.zipIdx.filter fun (s, i) => !isEff s && lv.getD i 0 == k).map (·.2)) ++ (effs[k]?).toList

/-- A plan's operations. -/
def itemsOf (steps : List AStep) (b : List Nat) : List Nat → Option (List (Nat × AStep × Nat))
  | [] => some []
  | i :: l =>
    match steps[i]?, b[i]?, itemsOf steps b l with
    | some s, some m, some r => some ((i, s, m) :: r)
    | _, _, _ => none

/-- The reads that are to be as they were, behind an operation. -/
def checksOf (done : List (Nat × AStep × Nat)) (e : AStep × Nat) : List AStep :=
  if isEff e.1 then done.filterMap fun r => if isRead r.2.1 && !e.2.testBit r.1 then some r.2.1 else none else []

def planSteps : List (Nat × AStep × Nat) → List (Nat × AStep × Nat) → List (AStep × List AStep)
  | _, [] => []
  | done, x :: l => (x.2.1, checksOf done x.2) :: planSteps (x :: done) l

/-- What is ahead was told of all. -/
def befsOk (b : List Nat) : List Oper → List Nat → Bool
  | [], [] => true
  | o :: l, m :: r => Nat.beq m (befOne b o) && ((o.after.toList.all fun e => !Region.binds .any e || Nat.blt e.on b.length) && befsOk b l r)
  | _, _ => false

def compPlan (ops : List Oper) (steps : List AStep) (b plan : List Nat) : Option (List (AStep × List AStep)) :=
  match itemsOf steps b plan with
  | some items =>
    if befsOk b ops b && (planOk items && (Nat.beq plan.length ops.length && (List.range ops.length).all fun i => plan.contains i)) then some (planSteps [] items) else none
  | none => none

def compDrawn (ops : Array Oper) : Option (List (AStep × List AStep)) :=
  match compSteps P ops ops.toList with
  | some steps => compPlan ops.toList steps (befs ops.toList []) (planOf steps (befs ops.toList []))
  | none => none

def comp : Code → Option ACode
  | .skip | .label _ => some .skip
  | .region _ ops false => (compSteps P ops ops.toList).map .ops
  | .region _ ops true => (compDrawn P ops).map .drawn
  | .seq a b =>
    match comp a, comp b with
    | some a, some b => some (.seq a b)
    | _, _ => none
  | .cond c a b =>
    match comp a, comp b with
    | some a, some b => some (.cond c a b)
    | _, _ => none
  | .block id a => (comp a).map (.block id)
  | .loop a => (comp a).map .loop
  | .exit id => some (.exit id)
  | .ret => some .ret
  | .refuse _ => some (.ops [⟨none, .fail, none⟩])
  | _ => none

/-- Each operation writes a slot that there is. -/
def dstsBelow (n : Nat) : Code → Bool
  | .region _ ops _ => ops.toList.all fun o => match o.dst with | some d => Nat.blt d n | none => true
  | .seq a b => dstsBelow n a && dstsBelow n b
  | .cond _ a b => dstsBelow n a && dstsBelow n b
  | .block _ a => dstsBelow n a
  | .loop a => dstsBelow n a
  | _ => true

def compRes : List ResultVar → Option (List ARes)
  | [] => some []
  | .tmp t :: l => (compRes l).map fun r => .tmp t :: r
  | .cell a t :: l =>
    match kindT P t, compRes l with
    | some n, some r => some (.cell a n :: r)
    | _, _ => none

def compFunc (fn : Func) : Option AFunc :=
  match fn.body with
  | some c =>
    match comp P c, compRes P fn.results.toList with
    | some a, some r => if dstsBelow fn.ntmps c && decide (fn.params.size ≤ fn.ntmps) then some ⟨a, r⟩ else none
    | _, _ => none
  | none => none

end
end Go.AM
