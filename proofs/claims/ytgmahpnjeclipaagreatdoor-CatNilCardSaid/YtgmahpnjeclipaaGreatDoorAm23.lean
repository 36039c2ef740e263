/- The machine once more, made for a kernel: what is looked at first is the code; values are forced; what comes behind is handed in. No condition. -/
import Derived.Test.YtgmahpnjeclipaaGreatDoorAm21
namespace Go.AM

abbrev Out := Option (AVal × AHeap)

/-! ### Values -/

def forceI (n : Int) (k : Int → Out) : Out :=
  match n with
  | .ofNat m => forceN m fun m => k (.ofNat m)
  | .negSucc m => forceN m fun m => k (.negSucc m)

theorem forceI_eq (n : Int) (k : Int → Out) : forceI n k = k n := by cases n <;> simp [forceI, forceN_eq]

def forceP : Value → (Value → Out) → Out
  | .int kd n => fun k => forceI n fun n => k (.int kd n)
  | .bool b => fun k => match b with | true => k (.bool true) | false => k (.bool false)
  | v => fun k => k v

theorem forceP_eq (v : Value) (k : Value → Out) : forceP v k = k v := by
  cases v <;> simp only [forceP, forceI_eq]
  split <;> rfl

def forceC : AVal → (AVal → Out) → Out
  | .prim v => fun k => forceP v fun v => k (.prim v)
  | .ptr b off => fun k => forceN b fun b => forceN off fun off => k (.ptr b off)
  | .slice b off len st cap => fun k => forceN b fun b => forceN off fun off => forceN len fun len => forceN st fun st =>
    match cap with
    | none => k (.slice b off len st none)
    | some c => forceN c fun c => k (.slice b off len st (some c))
  | .map r => fun k => forceN r fun r => k (.map r)
  | v => fun k => k v

theorem forceC_eq (v : AVal) (k : AVal → Out) : forceC v k = k v := by
  cases v <;> simp only [forceC, forceP_eq, forceN_eq]
  split <;> rfl

def forceCs : List AVal → (List AVal → Out) → Out
  | [] => fun k => k []
  | v :: l => fun k => forceC v fun v => forceCs l fun l => k (v :: l)

theorem forceCs_eq : ∀ (l : List AVal) (k : List AVal → Out), forceCs l k = k l
  | [], _ => rfl
  | v :: l, k => by simp only [forceCs, forceC_eq, forceCs_eq l]

def forceA : AVal → (AVal → Out) → Out
  | .agg l => fun k => forceCs l fun l => k (.agg l)
  | v => fun k => forceC v k

theorem forceA_eq (v : AVal) (k : AVal → Out) : forceA v k = k v := by
  cases v <;> simp only [forceA, forceC_eq, forceCs_eq]

def forceAs : List AVal → (List AVal → Out) → Out
  | [] => fun k => k []
  | v :: l => fun k => forceA v fun v => forceAs l fun l => k (v :: l)

theorem forceAs_eq : ∀ (l : List AVal) (k : List AVal → Out), forceAs l k = k l
  | [], _ => rfl
  | v :: l, k => by simp only [forceAs, forceA_eq, forceAs_eq l]

def forceV : AVal → (AVal → Out) → Out
  | .tuple l => fun k => forceAs l fun l => k (.tuple l)
  | v => fun k => forceA v k

theorem forceV_eq (v : AVal) (k : AVal → Out) : forceV v k = k v := by
  cases v <;> simp only [forceV, forceA_eq, forceAs_eq]

/-! ### Tables -/

/-- The way to a number. -/
def pathOf : Nat → Nat → List Bool
  | 0, _ => []
  | f + 1, k =>
    match Nat.beq k 0 with
    | true => []
    | false =>
      match Nat.beq (k % 2) 1 with
      | true => true :: pathOf f (k / 2)
      | false => false :: pathOf f (k / 2 - 1)

def getP {α : Type} : List Bool → Tr α → Option α
  | [] => fun t => match t with | .leaf => none | .node _ v _ => v
  | true :: p => fun t => match t with | .leaf => none | .node l _ _ => getP p l
  | false :: p => fun t => match t with | .leaf => none | .node _ _ r => getP p r

theorem getP_eq {α : Type} : ∀ (f k : Nat) (t : Tr α), k < f → getP (pathOf f k) t = t.get k
  | 0, k, t, h => by omega
  | f + 1, k, t, h => by
    unfold pathOf
    cases hk : Nat.beq k 0 with
    | true =>
      have : k = 0 := Nat.eq_of_beq_eq_true hk
      subst this
      cases t <;> rfl
    | false =>
      have hk0 : k ≠ 0 := by intro e; subst e; simp at hk
      cases hb : Nat.beq (k % 2) 1 with
      | true =>
        simp only [getP]
        cases t with
        | leaf => rfl
        | node l v r => simp only [Tr.get, hk, hb]; exact getP_eq f _ l (by omega)
      | false =>
        simp only [getP]
        cases t with
        | leaf => rfl
        | node l v r => simp only [Tr.get, hk, hb]; exact getP_eq f _ r (by omega)

def setP {α : Type} : List Bool → Tr α → Option α → (Tr α → Out) → Out
  | [] => fun t x k => match t with | .leaf => k (.node .leaf x .leaf) | .node l _ r => k (.node l x r)
  | true :: p => fun t x k =>
    match t with
    | .leaf => setP p .leaf x fun t => k (.node t none .leaf)
    | .node l v r => setP p l x fun t => k (.node t v r)
  | false :: p => fun t x k =>
    match t with
    | .leaf => setP p .leaf x fun t => k (.node .leaf none t)
    | .node l v r => setP p r x fun t => k (.node l v t)

theorem setP_eq {α : Type} : ∀ (f i : Nat) (t : Tr α) (x : Option α) (k : Tr α → Out), i < f → setP (pathOf f i) t x k = k (Tr.setF f t i x)
  | 0, i, t, x, k, h => by omega
  | f + 1, i, t, x, k, h => by
    unfold pathOf
    cases hk : Nat.beq i 0 with
    | true => cases t <;> simp only [setP, Tr.setF, hk]
    | false =>
      have hk0 : i ≠ 0 := by intro e; subst e; simp at hk
      cases hb : Nat.beq (i % 2) 1 with
      | true => cases t <;> simp only [setP, Tr.setF, hk, hb, Tr.force_eq] <;> exact setP_eq f _ _ x _ (by omega)
      | false => cases t <;> simp only [setP, Tr.setF, hk, hb, Tr.force_eq] <;> exact setP_eq f _ _ x _ (by omega)

/-! ### Frames -/

def fetch : Operand → Fr → AVal
  | .tmp t => fun T => match getP (pathOf (t + 1) t) T with | some v => v | none => unit
  | .const v => fun _ => .prim v
  | .global g => fun _ => .prim (.pointer (some ⟨g, 0, none⟩))
  | .func f => fun _ => .func f [] []

theorem fetch_eq (x : Operand) (T : Fr) : fetch x T = aeval T x := by
  cases x with
  | tmp t => simp only [fetch, aeval, slot]; rw [getP_eq _ _ _ t.lt_succ_self]; cases T.get t <;> rfl
  | _ => rfl

def fetchK : Operand → Fr → (AVal → Out) → Out
  | .tmp t => fun T k => match getP (pathOf (t + 1) t) T with | some v => k v | none => k unit
  | .const v => fun _ k => k (.prim v)
  | .global g => fun _ k => k (.prim (.pointer (some ⟨g, 0, none⟩)))
  | .func f => fun _ k => k (.func f [] [])

theorem fetchK_eq (x : Operand) (T : Fr) (k : AVal → Out) : fetchK x T k = k (aeval T x) := by
  cases x with
  | tmp t =>
    simp only [fetchK, aeval, slot]
    rw [getP_eq _ _ _ t.lt_succ_self]
    cases T.get t <;> rfl
  | _ => rfl

def fetchAll : List Operand → Fr → (List AVal → Out) → Out
  | [] => fun _ k => k []
  | x :: l => fun T k => fetchK x T fun v => fetchAll l T fun vs => k (v :: vs)

theorem fetchAll_eq : ∀ (l : List Operand) (T : Fr) (k : List AVal → Out), fetchAll l T k = k (l.map (aeval T))
  | [], _, _ => rfl
  | x :: l, T, k => by simp only [fetchAll, fetchK_eq, fetchAll_eq l, List.map_cons]

def putK : Option Nat → Fr → AVal → (Fr → Out) → Out
  | none => fun T _ k => k T
  | some d => fun T v k => setP (pathOf (d + 1) d) T (some v) k

theorem putK_eq (dst : Option Nat) (T : Fr) (v : AVal) (k : Fr → Out) : putK dst T v k = k (aput T dst v) := by
  cases dst with
  | none => rfl
  | some d => simp only [putK, aput]; exact setP_eq _ _ _ _ _ d.lt_succ_self

/-! ### Heaps -/

def forceH : AHeap → (AHeap → Out) → Out
  | ⟨n, t⟩ => fun k => forceN n fun n => t.force fun t => k ⟨n, t⟩

theorem forceH_eq (H : AHeap) (k : AHeap → Out) : forceH H k = k H := by
  cases H; simp only [forceH, forceN_eq, Tr.force_eq]

def heapSet : AHeap → Nat → AObj → (AHeap → Out) → Out
  | ⟨n, t⟩ => fun b o k => setP (pathOf (b + 1) b) t (some o) fun t => k ⟨n, t⟩

theorem heapSet_eq (H : AHeap) (b : Nat) (o : AObj) (k : AHeap → Out) : heapSet H b o k = k (H.set b o) := by
  cases H
  simp only [heapSet, setP_eq _ _ _ _ _ b.lt_succ_self, AHeap.set, Tr.force_eq]

def heapPush : AHeap → AObj → (AHeap → Out) → Out
  | ⟨n, t⟩ => fun o k => setP (pathOf (n + 1) n) t (some o) fun t => forceN (n + 1) fun m => k ⟨m, t⟩

theorem heapPush_eq (H : AHeap) (o : AObj) (k : AHeap → Out) : heapPush H o k = k (H.push o) := by
  cases H
  rename_i n t
  simp only [heapPush, setP_eq _ _ _ _ _ n.lt_succ_self, AHeap.push, Tr.force_eq, forceN_eq]

def heapGet : AHeap → Nat → Option AObj
  | ⟨_, t⟩ => fun b => getP (pathOf (b + 1) b) t

theorem heapGet_eq (H : AHeap) (b : Nat) : heapGet H b = H.get b := by
  cases H
  simp only [heapGet, AHeap.get, getP_eq _ _ _ b.lt_succ_self]

theorem Tr.setF_same {α : Type} : ∀ (f k : Nat) (t : Tr α) (x : α), k < f → t.get k = some x → Tr.setF f t k (some x) = t
  | 0, k, t, x, h, _ => by omega
  | f + 1, k, .leaf, x, h, e => by simp [Tr.get] at e
  | f + 1, k, .node l v r, x, h, e => by
    simp only [Tr.get] at e
    simp only [Tr.setF, Tr.force_eq]
    cases hk : Nat.beq k 0 with
    | true => rw [hk] at e; simp only at e ⊢; rw [e]
    | false =>
      have hk0 : k ≠ 0 := by intro e; subst e; simp at hk
      rw [hk] at e
      simp only at e ⊢
      cases hb : Nat.beq (k % 2) 1 with
      | true => rw [hb] at e; simp only at e ⊢; rw [Tr.setF_same f _ l x (by omega) e]
      | false => rw [hb] at e; simp only at e ⊢; rw [Tr.setF_same f _ r x (by omega) e]

/-- An object is forced in its place. -/
def normAt (H : AHeap) (b : Nat) (k : AHeap → Out) : Out :=
  match heapGet H b with
  | some (.cells l) => forceCs l fun l => heapSet H b (.cells l) k
  | _ => k H

theorem normAt_eq (H : AHeap) (b : Nat) (k : AHeap → Out) : normAt H b k = k H := by
  unfold normAt
  rw [heapGet_eq]
  split
  · rename_i l hl
    rw [forceCs_eq, heapSet_eq]
    congr 1
    cases H
    simp only [AHeap.get] at hl
    simp only [AHeap.set, Tr.force_eq, Tr.setF_same _ _ _ _ (Nat.lt_succ_self _) hl]
  · rfl

def forceO : AObj → (AObj → Out) → Out
  | .cells l => fun k => forceCs l fun l => k (.cells l)
  | o => fun k => k o

theorem forceO_eq (o : AObj) (k : AObj → Out) : forceO o k = k o := by
  cases o <;> simp only [forceO, forceCs_eq]

/-! ### Rows of cells -/

def nth : Nat → List AVal → Option AVal
  | 0 => fun l => match l with | [] => none | v :: _ => some v
  | n + 1 => fun l => match l with | [] => none | _ :: l => nth n l

theorem nth_eq : ∀ (n : Nat) (l : List AVal), nth n l = l[n]?
  | 0, [] => rfl
  | 0, _ :: _ => rfl
  | n + 1, [] => rfl
  | n + 1, _ :: l => by simp only [nth, nth_eq n l, List.getElem?_cons_succ]

def setNth : Nat → List AVal → AVal → (List AVal → Out) → Out
  | 0 => fun l v k => match l with | [] => none | _ :: l => k (v :: l)
  | n + 1 => fun l v k => match l with | [] => none | x :: l => setNth n l v fun l => k (x :: l)

theorem setNth_eq : ∀ (n : Nat) (l : List AVal) (v : AVal) (k : List AVal → Out), setNth n l v k = if n + 1 ≤ l.length then k (l.take n ++ (v :: l.drop (n + 1))) else none
  | 0, [], _, _ => rfl
  | 0, _ :: _, _, _ => by simp [setNth]
  | n + 1, [], _, _ => rfl
  | n + 1, x :: l, v, k => by
    simp only [setNth, setNth_eq n l, List.length_cons]
    by_cases h : n + 1 ≤ l.length
    · rw [if_pos h, if_pos (by omega)]; rfl
    · rw [if_neg h, if_neg (by omega)]
end Go.AM
