/- The fast machine: operations; what each comes to the machine's comes to. No condition. -/
import Derived.Test.YtgmahpnjeclipaaGreatDoorAm23
namespace Go.AM

def handB : Bool → (AVal → Out) → Out
  | true => fun k => k (.prim (.bool true))
  | false => fun k => k (.prim (.bool false))

theorem handB_eq (b : Bool) (k : AVal → Out) : handB b k = k (abool b) := by cases b <;> rfl

/-- Two numbers of one kind. -/
def aintK : BinOp → IntKind → Int → Int → (AVal → Out) → Out
  | .add => fun kd a b k => forceI (wrapF kd (Int.add a b)) fun n => k (.prim (.int kd n))
  | .sub => fun kd a b k => forceI (wrapF kd (Int.sub a b)) fun n => k (.prim (.int kd n))
  | .mul => fun kd a b k => forceI (wrapF kd (Int.mul a b)) fun n => k (.prim (.int kd n))
  | .and => fun kd a b k => forceI (iandF kd a b) fun n => k (.prim (.int kd n))
  | .or => fun kd a b k => forceI (iorF kd a b) fun n => k (.prim (.int kd n))
  | .xor => fun kd a b k => forceI (ixorF kd a b) fun n => k (.prim (.int kd n))
  | .eql => fun _ a b k => handB (ieqF a b) k
  | .neq => fun _ a b k => handB (!(ieqF a b)) k
  | .lss => fun _ a b k => handB (iltF a b) k
  | .leq => fun _ a b k => handB (!(iltF b a)) k
  | .gtr => fun _ a b k => handB (iltF b a) k
  | .geq => fun _ a b k => handB (!(iltF a b)) k
  | op => fun kd a b k => match aint op kd a b with | some v => forceC v k | none => none

theorem aintK_eq (op : BinOp) (kd : IntKind) (a b : Int) (k : AVal → Out) : aintK op kd a b k = (match aint op kd a b with | some v => k v | none => none) := by
  cases op <;> simp only [aintK, aint, forceI_eq, handB_eq]
  case quo => cases ieqF b 0 <;> simp only [forceC_eq]
  case rem => cases ieqF b 0 <;> simp only [forceC_eq]
  all_goals first | rfl | simp only [forceC_eq]

def isShift : BinOp → Bool
  | .shl | .shr => true
  | _ => false

def numK : BinOp → IntKind → Int → IntKind → Int → (AVal → Out) → Out
  | op => match isShift op with
    | true => fun kd a _ b k => match ashift op kd a b with | some v => forceC v k | none => none
    | false => fun kd a kd' b k => if kd = kd' then aintK op kd a b k else none

def binK (op : BinOp) (t : Option EqT) (x y : AVal) (k : AVal → Out) : Out :=
  match x, y with
  | .prim (.int kd a), .prim (.int kd' b) => numK op kd a kd' b k
  | x, y => match abin op t x y with | some v => forceC v k | none => none

theorem binK_eq (op : BinOp) (t : Option EqT) (x y : AVal) (k : AVal → Out) : binK op t x y k = (match abin op t x y with | some v => k v | none => none) := by
  unfold binK
  split
  · rename_i kd a kd' b
    unfold numK
    cases hs : isShift op with
    | true => cases op <;> simp [isShift] at hs <;> simp only [abin, forceC_eq]
    | false =>
      simp only [aintK_eq]
      cases op <;> simp [isShift] at hs <;> (simp only [abin]; split <;> rfl)
  · simp only [forceC_eq]

def handV (r : Option AVal) (H : AHeap) (k : AVal → AHeap → Out) : Out :=
  match r with
  | some v => forceV v fun v => k v H
  | none => none

def give (r : Option (AVal × AHeap)) (k : AVal → AHeap → Out) : Out :=
  match r with
  | some (v, H) => k v H
  | none => none

theorem handV_eq (r : Option AVal) (H : AHeap) (k : AVal → AHeap → Out) : handV r H k = give (r.map fun v => (v, H)) k := by
  cases r <;> simp [handV, give, forceV_eq]

def blockOf : AVal → Nat
  | .ptr b _ => b
  | .slice b _ _ _ _ => b
  | _ => 0

def handE (r : Option (AVal × AHeap)) (b : Nat) (k : AVal → AHeap → Out) : Out :=
  match r with
  | some (v, H) => forceV v fun v => forceH H fun H => normAt H b fun H => k v H
  | none => none

theorem handE_eq (r : Option (AVal × AHeap)) (b : Nat) (k : AVal → AHeap → Out) : handE r b k = give r k := by
  cases r <;> simp [handE, give, forceV_eq, forceH_eq, normAt_eq]

def handM (r : Option (AObj × (Nat → AVal))) (H : AHeap) (k : AVal → AHeap → Out) : Out :=
  match r, H with
  | some (o, f), ⟨n, t⟩ => forceO o fun o => heapPush ⟨n, t⟩ o fun H => forceV (f n) fun v => k v H
  | none, _ => none

theorem handM_eq (r : Option (AObj × (Nat → AVal))) (H : AHeap) (k : AVal → AHeap → Out) :
    handM r H k = give (match r with | some (ob, v) => some (v H.n, H.push ob) | none => none) k := by
  cases r <;> cases H <;> simp [handM, give, forceO_eq, heapPush_eq, forceV_eq]

def fetchO : Option Operand → Fr → Option AVal
  | none => fun _ => none
  | some x => fun T => some (fetch x T)

theorem fetchO_eq (x : Option Operand) (T : Fr) : fetchO x T = x.map (aeval T) := by cases x <;> simp [fetchO, fetch_eq]

def fetchParts : List (Nat × Nat × Operand) → Fr → List (Nat × Nat × AVal)
  | [] => fun _ => []
  | (a, b, x) :: l => fun T => (a, b, fetch x T) :: fetchParts l T

theorem fetchParts_eq : ∀ (l : List (Nat × Nat × Operand)) (T : Fr), fetchParts l T = l.map fun p => (p.1, p.2.1, aeval T p.2.2)
  | [], _ => rfl
  | (a, b, x) :: l, T => by simp only [fetchParts, fetchParts_eq l, fetch_eq, List.map_cons]

/-- One operation. -/
def opK : AOp → AM.Callee → Fr → AHeap → (AVal → AHeap → Out) → Out
  | .move x => fun _ T H k => fetchK x T fun v => k v H
  | .pick c a b => fun _ T H k =>
    match fetch c T with
    | .prim (.bool true) => fetchK a T fun v => k v H
    | .prim (.bool false) => fetchK b T fun v => k v H
    | _ => none
  | .build z parts => fun _ T H k => handV ((afill (prims z) (fetchParts parts T)).map .agg) H k
  | .nilCheck x => fun _ T H k => handV (anilCheck (fetch x T)) H k
  | .bin op t x y => fun _ T H k => binK op t (fetch x T) (fetch y T) fun v => k v H
  | .un op x => fun _ T H k => handV (aun op (fetch x T)) H k
  | .conv kd x => fun _ T H k => handV (aconv kd (fetch x T)) H k
  | .makeFunc f first caps => fun _ T H k => fetchAll first T fun a => fetchAll caps T fun b => k (.func f a b) H
  | .sliceArr n st x lo hi => fun _ T H k => handV (asliceArr n st (fetch x T) (fetchO lo T) (fetchO hi T)) H k
  | .sliceStr x lo hi => fun _ T H k => handV (asliceStr (fetch x T) (fetchO lo T) (fetchO hi T)) H k
  | .slice st x lo hi mx => fun _ T H k => handV (aslice st (fetch x T) (fetchO lo T) (fetchO hi T) (fetchO mx T)) H k
  | .field off x => fun _ T H k => handV (afieldAddr off (fetch x T)) H k
  | .part n off x => fun _ T H k => handV (afield n off (fetch x T)) H k
  | .indexArr len st x i => fun _ T H k => handV (aindexArr len st (fetch x T) (fetch i T)) H k
  | .indexSl st x i => fun _ T H k => handV (aindexSl st (fetch x T) (fetch i T)) H k
  | .atArr len st n x i => fun _ T H k => handV (aatArr len st n (fetch x T) (fetch i T)) H k
  | .atStr x i => fun _ T H k => handV (aatStr (fetch x T) (fetch i T)) H k
  | .extract x i => fun _ T H k => handV (aextract (fetch x T) i) H k
  | .lenStr x => fun _ T H k => handV (alenStr (fetch x T)) H k
  | .lenSl x => fun _ T H k => handV (alenSl (fetch x T)) H k
  | .lenC n => fun _ _ H k => k (int n) H
  | .load none x => fun _ T H k =>
    match fetch x T with
    | .ptr b off =>
      match heapGet H b with
      | some (.cells l) => match nth off l with | some v => k v H | none => none
      | _ => none
    | _ => none
  | .load (some n) x => fun _ T H k => handV (aload (some n) (fetch x T) H) H k
  | .lookup str z m key ok => fun _ T H k => handV (alookup str z (fetch m T) (fetch key T) ok H) H k
  | .toStr x => fun _ T H k => handV (toStr (fetch x T) H) H k
  | .lenMap x => fun _ T H k => handV (alenMap (fetch x T) H) H k
  | .alloc z => fun _ _ H k => handM (some (.cells (prims z), fun b => .ptr b 0)) H k
  | .box x => fun _ T H k => handM (some (.cells (fetch x T).cells, fun b => .ptr b 0)) H k
  | .store n x v => fun _ T H k =>
    match Nat.beq n 1, (fetch v T).one, fetch x T with
    | true, true, .ptr b off =>
      match heapGet H b with
      | some (.cells l) => fetchK v T fun v => setNth off l v fun l => heapSet H b (.cells l) fun H => k unit H
      | _ => none
    | _, _, p => handE (thenUnit (astore n p (fetch v T) H)) (blockOf p) k
  | .mapUpdate str m key v => fun _ T H k => handE (thenUnit (amapUpdate str (fetch m T) (fetch key T) (fetch v T) H)) 0 k
  | .next x s => fun _ T H k => handE (anext (fetch x T) s H) 0 k
  | .append st b z zs s x => fun _ T H k => handE (aappend st b (prims z) zs (fetch s T) (fetch x T) H) (blockOf (fetch s T)) fun v H' => normAt H' H.n fun H' => k v H'
  | .copy st d x => fun _ T H k => handE (acopy st (fetch d T) (fetch x T) H) (blockOf (fetch d T)) k
  | .clearSl st z x => fun _ T H k => handE (thenUnit (aclearSl st (prims z) (fetch x T) H)) (blockOf (fetch x T)) k
  | .call f args => fun cl T H k => fetchAll args T fun vs => give (cl f vs H) k
  | .callV x args => fun cl T H k =>
    match fetch x T with
    | .func f first caps => fetchAll args T fun vs => give (cl f (first ++ (vs ++ caps)) H) k
    | _ => none
  | o => match o.kind with
    | 0 => fun _ T H k => handV (pureOp (aeval T) o) H k
    | 1 => fun _ T H k => handV (readOp (aeval T) H o) H k
    | 2 => fun _ T H k => handM (makeOp (aeval T) o) H k
    | _ => fun cl T H k => handE (effOp (aeval T) cl H o) 0 k

theorem one_cells {v : AVal} (h : v.one = true) : v.cells = [v] := by
  cases v <;> simp [AVal.one] at h <;> simp [AVal.cells]
  rename_i w
  cases w <;> simp [vone] at h <;> simp [Value.cells]

theorem opK_eq (o : AOp) (cl : AM.Callee) (T : Fr) (H : AHeap) (k : AVal → AHeap → Out) : opK o cl T H k = give (stepOp (aeval T) cl H o) k := by
  cases o
  case load n x =>
    cases n with
    | some n => simp only [opK, stepOp, AOp.kind, readOp, handV_eq, fetch_eq]
    | none =>
      simp only [opK, stepOp, AOp.kind, readOp, fetch_eq, aload]
      cases aeval T x <;> try rfl
      rename_i b off
      simp only [heapGet_eq]
      cases H.get b with
      | none => rfl
      | some o =>
        cases o <;> try rfl
        rename_i l
        simp only [nth_eq, apart]
        cases l[off]? <;> rfl
  case store n x v =>
    simp only [opK, stepOp, AOp.kind, effOp, fetch_eq]
    split
    · rename_i b off hn hv hx
      have hn1 : n = 1 := Nat.eq_of_beq_eq_true hn
      subst hn1
      rw [hx]
      simp only [astore, one_cells hv, List.length_singleton, if_true, layCells, heapGet_eq]
      cases H.get b with
      | none => rfl
      | some o =>
        cases o <;> try rfl
        rename_i l
        simp only [fetchK_eq, setNth_eq, heapSet_eq, List.all_cons, hv, List.all_nil, Bool.and_true, and_true]
        by_cases hl : off + 1 ≤ l.length
        · rw [if_pos hl, if_pos hl]; rfl
        · rw [if_neg hl, if_neg hl]; rfl
    · rw [handE_eq]
  case pick c a b =>
    simp only [opK, stepOp, AOp.kind, pureOp, fetch_eq, fetchK_eq]
    split <;> rename_i h <;> first | (rw [h]; rfl) | skip
    rename_i h2
    split <;> first | rfl | (rename_i h3; first | exact absurd h3 h | exact absurd h3 h2)
  case bin op t x y =>
    simp only [opK, stepOp, AOp.kind, pureOp, fetch_eq, binK_eq]
    cases abin op t (aeval T x) (aeval T y) <;> rfl
  case callV x args =>
    simp only [opK, stepOp, AOp.kind, effOp, fetch_eq, fetchAll_eq]
    cases aeval T x <;> rfl
  all_goals first
    | (simp only [opK, stepOp, AOp.kind, pureOp, readOp, makeOp, effOp, handV_eq, handE_eq, handM_eq, fetch_eq, fetchO_eq, fetchK_eq, fetchAll_eq, fetchParts_eq, normAt_eq]; done)
    | (simp only [opK, stepOp, AOp.kind, pureOp, makeOp, handM_eq, fetchK_eq, fetchAll_eq, ]; rfl)
end Go.AM
