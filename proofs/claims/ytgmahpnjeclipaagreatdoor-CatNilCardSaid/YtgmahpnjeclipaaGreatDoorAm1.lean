/- The abstract machine AM: values, heap, operations, execution. No condition: definitions alone, over any program. -/
import Derived.Orders
import Derived.IntWalk
namespace Go.AM

/-- A value of the abstract machine. -/
inductive AVal where
  | prim (v : Value)
  | ptr (b off : Nat)
  | slice (b off len stride : Nat) (cap : Option Nat)
  | map (r : Nat)
  | func (f : FuncId) (first caps : List AVal)
  | agg (l : List AVal)
  | tuple (l : List AVal)

instance : Inhabited AVal := ⟨.prim undef⟩

/-- An object of the abstract heap. -/
inductive AObj where
  | cells (l : List AVal)
  | map (es : List (Value × AVal))
  | iter (s : ByteArray) (pos : Nat)
  | miter (m : Nat)

/-- A table by numbers. -/
inductive Tr (α : Type) where
  | leaf
  | node (l : Tr α) (v : Option α) (r : Tr α)

def Tr.get {α : Type} : Tr α → Nat → Option α
  | .leaf, _ => none
  | .node l v r, k =>
    match Nat.beq k 0 with
    | true => v
    | false =>
      match Nat.beq (k % 2) 1 with
      | true => l.get (k / 2)
      | false => r.get (k / 2 - 1)

/-- Hands a table on when its head is known. -/
def Tr.force {α β : Type} (t : Tr α) (k : Tr α → β) : β :=
  match t with
  | .leaf => k .leaf
  | .node l v r => k (.node l v r)

theorem Tr.force_eq {α β : Type} (t : Tr α) (k : Tr α → β) : t.force k = k t := by cases t <;> rfl

def Tr.setF {α : Type} : Nat → Tr α → Nat → Option α → Tr α
  | 0, t, _, _ => t
  | f + 1, .leaf, k, x =>
    match Nat.beq k 0 with
    | true => .node .leaf x .leaf
    | false =>
      match Nat.beq (k % 2) 1 with
      | true => (Tr.setF f .leaf (k / 2) x).force fun t => .node t none .leaf
      | false => (Tr.setF f .leaf (k / 2 - 1) x).force fun t => .node .leaf none t
  | f + 1, .node l v r, k, x =>
    match Nat.beq k 0 with
    | true => .node l x r
    | false =>
      match Nat.beq (k % 2) 1 with
      | true => (Tr.setF f l (k / 2) x).force fun t => .node t v r
      | false => (Tr.setF f r (k / 2 - 1) x).force fun t => .node l v t

theorem Tr.get_setF {α : Type} : ∀ (f : Nat) (t : Tr α) (k : Nat) (x : Option α) (j : Nat), k < f →
    (Tr.setF f t k x).get j = if j = k then x else t.get j := by
  intro f
  induction f with
  | zero => intro t k x j h; omega
  | succ f ih =>
    intro t k x j h
    have hl : ∀ j : Nat, (Tr.leaf : Tr α).get j = none := fun _ => rfl
    have bt : ∀ a b : Nat, Nat.beq a b = true ↔ a = b := fun a b => ⟨Nat.eq_of_beq_eq_true, fun h => by subst h; exact Nat.beq_refl a⟩
    have bf : ∀ a b : Nat, Nat.beq a b = false ↔ a ≠ b := fun a b => by
      constructor
      · intro h e; rw [(bt a b).2 e] at h; cases h
      · intro h; cases hb : Nat.beq a b with
        | false => rfl
        | true => exact absurd ((bt a b).1 hb) h
    have key : ∀ (l r : Tr α) (v : Option α),
        (match Nat.beq k 0 with
          | true => Tr.node l x r
          | false => match Nat.beq (k % 2) 1 with
            | true => Tr.node (Tr.setF f l (k / 2) x) v r
            | false => Tr.node l v (Tr.setF f r (k / 2 - 1) x)).get j = if j = k then x else (Tr.node l v r).get j := by
      intro l r v
      cases hk : Nat.beq k 0 with
      | true =>
        have hk0 := (bt _ _).1 hk
        subst hk0
        cases hj : Nat.beq j 0 with
        | true => have := (bt _ _).1 hj; subst this; simp [Tr.get]
        | false => have := (bf _ _).1 hj; simp [Tr.get, hj, this]
      | false =>
        have hk0 := (bf _ _).1 hk
        cases hk2 : Nat.beq (k % 2) 1 with
        | true =>
          have hk2' := (bt _ _).1 hk2
          simp only [Tr.get]
          cases hj : Nat.beq j 0 with
          | true => have := (bt _ _).1 hj; subst this; simp; intro h; exact absurd h.symm hk0
          | false =>
            have hj0 := (bf _ _).1 hj
            cases hj2 : Nat.beq (j % 2) 1 with
            | true =>
              have hj2' := (bt _ _).1 hj2
              simp only [ih _ _ _ _ (show k / 2 < f by omega)]
              by_cases e : j = k
              · subst e; simp
              · have : ¬ (j / 2 = k / 2) := by omega
                simp [e, this]
            | false =>
              have hj2' := (bf _ _).1 hj2
              have e : j ≠ k := by intro e; subst e; exact hj2' hk2'
              simp [e]
        | false =>
          have hk2' := (bf _ _).1 hk2
          simp only [Tr.get]
          cases hj : Nat.beq j 0 with
          | true => have := (bt _ _).1 hj; subst this; simp; intro h; exact absurd h.symm hk0
          | false =>
            have hj0 := (bf _ _).1 hj
            cases hj2 : Nat.beq (j % 2) 1 with
            | true =>
              have hj2' := (bt _ _).1 hj2
              have e : j ≠ k := by intro e; subst e; exact hk2' hj2'
              simp [e]
            | false =>
              have hj2' := (bf _ _).1 hj2
              simp only [ih _ _ _ _ (show k / 2 - 1 < f by omega)]
              by_cases e : j = k
              · subst e; simp
              · have : ¬ (j / 2 - 1 = k / 2 - 1) := by omega
                simp [e, this]
    cases t with
    | leaf =>
      have := key .leaf .leaf none
      simp only [Tr.setF, Tr.force_eq]
      have hn : (Tr.node .leaf none .leaf : Tr α).get j = none := by
        simp only [Tr.get]
        cases Nat.beq j 0 with
        | true => rfl
        | false => cases Nat.beq (j % 2) 1 <;> rfl
      rw [hn] at this
      rw [hl]
      exact this
    | node l v r =>
      simp only [Tr.setF, Tr.force_eq]
      exact key l r v

/-- The abstract heap. -/
structure AHeap where
  n : Nat
  t : Tr AObj

def AHeap.empty : AHeap := ⟨0, .leaf⟩
def AHeap.get (H : AHeap) (b : Nat) : Option AObj := H.t.get b
def AHeap.set (H : AHeap) (b : Nat) (o : AObj) : AHeap := (Tr.setF (b + 1) H.t b (some o)).force fun t => ⟨H.n, t⟩
def AHeap.kill (H : AHeap) (b : Nat) : AHeap := (Tr.setF (b + 1) H.t b none).force fun t => ⟨H.n, t⟩
def AHeap.push (H : AHeap) (o : AObj) : AHeap := (Tr.setF (H.n + 1) H.t H.n (some o)).force fun t => ⟨H.n + 1, t⟩

theorem AHeap.get_set (H : AHeap) (b : Nat) (o : AObj) (c : Nat) : (H.set b o).get c = if c = b then some o else H.get c := by
  simp [AHeap.set, AHeap.get, Tr.force_eq, Tr.get_setF]
theorem AHeap.get_kill (H : AHeap) (b : Nat) (c : Nat) : (H.kill b).get c = if c = b then none else H.get c := by
  simp [AHeap.kill, AHeap.get, Tr.force_eq, Tr.get_setF]
theorem AHeap.get_push (H : AHeap) (o : AObj) (c : Nat) : (H.push o).get c = if c = H.n then some o else H.get c := by
  simp [AHeap.push, AHeap.get, Tr.force_eq, Tr.get_setF]
@[simp] theorem AHeap.n_set (H : AHeap) (b : Nat) (o : AObj) : (H.set b o).n = H.n := by simp [AHeap.set, Tr.force_eq]
@[simp] theorem AHeap.n_kill (H : AHeap) (b : Nat) : (H.kill b).n = H.n := by simp [AHeap.kill, Tr.force_eq]
@[simp] theorem AHeap.n_push (H : AHeap) (o : AObj) : (H.push o).n = H.n + 1 := by simp [AHeap.push, Tr.force_eq]
@[simp] theorem AHeap.get_empty (c : Nat) : AHeap.empty.get c = none := rfl

/-! ### Small words -/

/-- The cells of a value. -/
def AVal.cells : AVal → List AVal
  | .agg l => l
  | .prim v => v.cells.toList.map .prim
  | v => [v]

/-- Is it the value of one cell, in the model? -/
def vone : Value → Bool
  | .agg _ | .tuple _ => false
  | _ => true

/-- Is it the value of one cell? -/
def AVal.one : AVal → Bool
  | .agg _ | .tuple _ => false
  | .prim v => vone v
  | _ => true

def int (n : Int) : AVal := .prim (.int .i64 n)
def abool (b : Bool) : AVal := .prim (.bool b)
def unit : AVal := .prim undef
def nilSlice : AVal := .prim (.slice none 0 0)

/-- A frame: its slots by numbers. -/
abbrev Fr := Tr AVal

/-- The slot of a frame. -/
def slot (T : Fr) (t : Nat) : AVal :=
  match T.get t with
  | some v => v
  | none => unit

def aeval (T : Fr) : Operand → AVal
  | .tmp t => slot T t
  | .const v => .prim v
  | .global g => .prim (.pointer (some ⟨g, 0, none⟩))
  | .func f => .func f [] []

def aput (T : Fr) (dst : Option Tmp) (v : AVal) : Fr :=
  match dst with
  | some d => Tr.setF (d + 1) T d (some v)
  | none => T

theorem slot_aput (T : Fr) (d : Nat) (v : AVal) (t : Nat) : slot (aput T (some d) v) t = if t = d then v else slot T t := by
  simp only [slot, aput, Tr.get_setF (d + 1) T d (some v) t d.lt_succ_self]
  by_cases h : t = d <;> simp [h]

@[simp] theorem slot_aput_none (T : Fr) (v : AVal) (t : Nat) : slot (aput T none v) t = slot T t := rfl


/-- The part of a row of cells: of one cell (none), or of so many. -/
def apart (n : Option Nat) (l : List AVal) (off : Nat) : Option AVal :=
  match n with
  | none => l[off]?
  | some n => if off + n ≤ l.length then some (.agg ((l.drop off).take n)) else none

/-- Parts are laid into a row: each its place, its size, its value. -/
def afill (cells : List AVal) : List (Nat × Nat × AVal) → Option (List AVal)
  | [] => some cells
  | (off, size, v) :: rest =>
    if v.cells.length = size ∧ off + size ≤ cells.length then afill (cells.take off ++ (v.cells ++ cells.drop (off + size))) rest else none

def rep (n : Nat) (z : List AVal) : List AVal := (List.replicate n z).flatten

/-! ### Operations that touch no memory -/

/-- The numbers of a kind are below. -/
def limK : IntKind → Nat
  | .i8 => 128 | .u8 => 256 | .i16 => 32768 | .u16 => 65536 | .i32 => 2147483648 | .u32 => 4294967296
  | .i64 => 9223372036854775808 | .u64 => 18446744073709551616

/-- Hands a number on when it is known. -/
def forceN {α : Type} (n : Nat) (f : Nat → α) : α :=
  match n with
  | 0 => f 0
  | m + 1 => f (Nat.succ m)

theorem forceN_eq {α : Type} (n : Nat) (f : Nat → α) : forceN n f = f n := by cases n <;> rfl

/-- As the model wraps. -/
def wrapF (k : IntKind) (n : Int) : Int :=
  match n with
  | .ofNat m => forceN m fun m =>
    match Nat.blt m (limK k) with
    | true => .ofNat m
    | false => k.wrap (.ofNat m)
  | .negSucc m => forceN m fun m =>
    match k.signed && Nat.blt m (limK k) with
    | true => .negSucc m
    | false => k.wrap (.negSucc m)

theorem wrap_below (k : IntKind) (m : Nat) (h : m < limK k) : k.wrap (m : Int) = m := by
  cases k <;> simp only [limK] at h
  · exact IntWalk.i8_in _ (by omega)
  · exact IntWalk.i16_in _ (by omega)
  · exact IntWalk.i32_in _ (by omega)
  · exact IntWalk.i64_in _ (by omega)
  · exact IntWalk.u8_in _ (by omega)
  · exact IntWalk.u16_in _ (by omega)
  · exact IntWalk.u32_in _ (by omega)
  · exact IntWalk.u64_in _ (by omega)

theorem wrap_above (k : IntKind) (m : Nat) (hs : k.signed = true) (h : m < limK k) : k.wrap (Int.negSucc m) = Int.negSucc m := by
  rw [Int.negSucc_eq]
  cases k <;> simp only [limK] at h <;> simp [IntKind.signed] at hs
  · exact IntWalk.i8_in _ (by omega)
  · exact IntWalk.i16_in _ (by omega)
  · exact IntWalk.i32_in _ (by omega)
  · exact IntWalk.i64_in _ (by omega)

theorem wrapF_eq (k : IntKind) (n : Int) : wrapF k n = k.wrap n := by
  cases n with
  | ofNat m =>
    simp only [wrapF, forceN_eq]
    cases h : Nat.blt m (limK k) with
    | false => rfl
    | true => exact (wrap_below k m (by simpa using h)).symm
  | negSucc m =>
    simp only [wrapF, forceN_eq]
    cases h : (k.signed && Nat.blt m (limK k)) with
    | false => rfl
    | true =>
      simp only [Bool.and_eq_true, Nat.blt_eq] at h
      exact (wrap_above k m h.1 h.2).symm

/-- Below? -/
def iltF : Int → Int → Bool
  | .ofNat a, .ofNat b => Nat.blt a b
  | .ofNat _, .negSucc _ => false
  | .negSucc _, .ofNat _ => true
  | .negSucc a, .negSucc b => Nat.blt b a

theorem iltF_eq (x y : Int) : iltF x y = decide (x < y) := by
  have e : (iltF x y = true) ↔ x < y := by
    cases x <;> cases y <;> simp [iltF] <;> omega
  cases h : iltF x y with
  | true => simpa using e.1 h
  | false =>
    have : ¬ x < y := fun h' => by rw [e.2 h'] at h; cases h
    simpa using this

def ieqF : Int → Int → Bool
  | .ofNat a, .ofNat b => Nat.beq a b
  | .negSucc a, .negSucc b => Nat.beq a b
  | _, _ => false

theorem ieqF_eq (x y : Int) : ieqF x y = (x == y) := by
  have e : (ieqF x y = true) ↔ x = y := by
    cases x <;> cases y <;> simp [ieqF] <;> omega
  cases h : ieqF x y with
  | true => have := e.1 h; subst this; simp
  | false =>
    have : ¬ x = y := fun h' => by rw [e.2 h'] at h; cases h
    simp [this]

/-- The bits of two numbers, as the model takes them; of numbers that are not below 0, and of a kind's, at once. -/
def bitsF (k : IntKind) (f : Nat → Nat → Nat) (g : BitVec k.bits → BitVec k.bits → BitVec k.bits) (x y : Int) : Int :=
  match x, y with
  | .ofNat a, .ofNat b =>
    match Nat.blt a (limK k) && Nat.blt b (limK k) with
    | true => forceN (f a b) fun m => .ofNat m
    | false => k.wrap (g (BitVec.ofInt k.bits x) (BitVec.ofInt k.bits y)).toNat
  | _, _ => k.wrap (g (BitVec.ofInt k.bits x) (BitVec.ofInt k.bits y)).toNat

theorem bitsF_eq {k : IntKind} {f : Nat → Nat → Nat} {g : BitVec k.bits → BitVec k.bits → BitVec k.bits} (x y : Int)
    (hf : ∀ a b : BitVec k.bits, (g a b).toNat = f a.toNat b.toNat) (hl : ∀ a b, a < limK k → b < limK k → f a b < limK k) :
    bitsF k f g x y = k.wrap (g (BitVec.ofInt k.bits x) (BitVec.ofInt k.bits y)).toNat := by
  unfold bitsF
  split
  · rename_i a b
    split
    · rename_i h
      simp only [Bool.and_eq_true, Nat.blt_eq] at h
      obtain ⟨ha, hb⟩ := h
      have hk : limK k ≤ 2 ^ k.bits := by cases k <;> simp [limK, IntKind.bits]
      rw [forceN_eq, hf]
      simp only [Int.ofNat_eq_natCast, BitVec.ofInt_natCast, BitVec.toNat_ofNat]
      rw [Nat.mod_eq_of_lt (Nat.lt_of_lt_of_le ha hk), Nat.mod_eq_of_lt (Nat.lt_of_lt_of_le hb hk)]
      have := hl a b ha hb
      have w := wrapF_eq k (Int.ofNat (f a b))
      simp only [wrapF, forceN_eq, show Nat.blt (f a b) (limK k) = true from by simpa using this] at w
      exact w
    · rfl
  · rfl

def iandF (k : IntKind) (x y : Int) : Int := bitsF k Nat.land (· &&& ·) x y
def iorF (k : IntKind) (x y : Int) : Int := bitsF k Nat.lor (· ||| ·) x y
def ixorF (k : IntKind) (x y : Int) : Int := bitsF k Nat.xor (· ^^^ ·) x y

theorem limK_pow (k : IntKind) : ∃ n, limK k = 2 ^ n := by
  cases k
  · exact ⟨7, rfl⟩
  · exact ⟨15, rfl⟩
  · exact ⟨31, rfl⟩
  · exact ⟨63, rfl⟩
  · exact ⟨8, rfl⟩
  · exact ⟨16, rfl⟩
  · exact ⟨32, rfl⟩
  · exact ⟨64, rfl⟩

theorem iandF_eq (k : IntKind) (x y : Int) : iandF k x y = k.wrap (BitVec.ofInt k.bits x &&& BitVec.ofInt k.bits y).toNat :=
  bitsF_eq x y (fun _ _ => BitVec.toNat_and ..) fun _ _ _ h => Nat.lt_of_le_of_lt Nat.and_le_right h
theorem iorF_eq (k : IntKind) (x y : Int) : iorF k x y = k.wrap (BitVec.ofInt k.bits x ||| BitVec.ofInt k.bits y).toNat :=
  bitsF_eq x y (fun _ _ => BitVec.toNat_or ..) fun a b ha hb => by
    obtain ⟨n, hn⟩ := limK_pow k; rw [hn] at ha hb ⊢; exact Nat.or_lt_two_pow ha hb
theorem ixorF_eq (k : IntKind) (x y : Int) : ixorF k x y = k.wrap (BitVec.ofInt k.bits x ^^^ BitVec.ofInt k.bits y).toNat :=
  bitsF_eq x y (fun _ _ => BitVec.toNat_xor ..) fun a b ha hb => by
    obtain ⟨n, hn⟩ := limK_pow k; rw [hn] at ha hb ⊢; exact Nat.xor_lt_two_pow ha hb

def aint (op : BinOp) (k : IntKind) (x y : Int) : Option AVal :=
  match op with
  | .add => some (.prim (.int k (wrapF k (x + y))))
  | .sub => some (.prim (.int k (wrapF k (x - y))))
  | .mul => some (.prim (.int k (wrapF k (x * y))))
  | .quo => match ieqF y 0 with | true => none | false => some (.prim (.int k (wrapF k (x.tdiv y))))
  | .rem => match ieqF y 0 with | true => none | false => some (.prim (.int k (x.tmod y)))
  | .and => some (.prim (.int k (iandF k x y)))
  | .or => some (.prim (.int k (iorF k x y)))
  | .xor => some (.prim (.int k (ixorF k x y)))
  | .andNot => some (.prim (.int k (k.wrap (BitVec.ofInt k.bits x &&& ~~~BitVec.ofInt k.bits y).toNat)))
  | .eql => some (abool (ieqF x y))
  | .neq => some (abool !(ieqF x y))
  | .lss => some (abool (iltF x y))
  | .leq => some (abool !(iltF y x))
  | .gtr => some (abool (iltF y x))
  | .geq => some (abool !(iltF x y))
  | _ => none

def ashift (op : BinOp) (k : IntKind) (x y : Int) : Option AVal :=
  match y with
  | .negSucc _ => none
  | .ofNat n =>
    match op with
    | .shl => some (.prim (.int k (wrapF k (x * Int.ofNat (Nat.pow 2 (min n k.bits))))))
    | .shr => some (.prim (.int k (x.fdiv (Int.ofNat (Nat.pow 2 (min n k.bits))))))
    | _ => none

def astr (op : BinOp) (x y : ByteArray) : Option AVal :=
  match op with
  | .add => if x.size + y.size ≤ 2 ^ 62 then some (.prim (.string (x ++ y))) else none
  | .eql => some (abool (x.toList == y.toList))
  | .neq => some (abool !(x.toList == y.toList))
  | .lss => some (abool (Op.bytesLess x.toList y.toList))
  | .leq => some (abool (Op.bytesLess x.toList y.toList || x.toList == y.toList))
  | .gtr => some (abool !(Op.bytesLess x.toList y.toList || x.toList == y.toList))
  | .geq => some (abool !(Op.bytesLess x.toList y.toList))
  | _ => none

/-- The kinds of plain cells. -/
inductive Leaf where
  | int | bool | str
  deriving DecidableEq

/-- The types whose values are compared here. -/
inductive EqT where
  | bool | ptr | slice | map | func
  | agg (l : List Leaf)

/-- The cells of a struct or an array. -/
def aggCells (x : AVal) : Option (List AVal) :=
  match x with
  | .agg l => some l
  | .prim (.agg cs) => some (cs.toList.map .prim)
  | _ => none

/-- Are two plain cells alike? -/
def ceq (f : Leaf) (x y : AVal) : Option Bool :=
  match f, x, y with
  | .int, .prim (.int k a), .prim (.int k' b) => if k = k' then some (ieqF a b) else none
  | .bool, .prim (.bool a), .prim (.bool b) => some (a == b)
  | .str, .prim (.string a), .prim (.string b) => some (a.data.toList == b.data.toList)
  | _, _, _ => none

def ceqs : List Leaf → List AVal → List AVal → Option Bool
  | [], [], [] => some true
  | f :: fs, x :: l, y :: l' =>
    match ceq f x y, ceqs fs l l' with
    | some a, some b => some (a && b)
    | _, _ => none
  | _, _, _ => none

/-- Equality, of what may be compared here. -/
def aeql (t : EqT) (x y : AVal) : Option Bool :=
  match t, x, y with
  | .bool, .prim (.bool a), .prim (.bool b) => some (a == b)
  | .ptr, .prim (.pointer none), .prim (.pointer b) => some b.isNone
  | .ptr, .prim (.pointer (some _)), .prim (.pointer none) => some false
  | .ptr, .prim (.pointer none), .ptr _ _ => some false
  | .ptr, .ptr _ _, .prim (.pointer none) => some false
  | .slice, .prim (.slice none _ _), .prim (.slice b _ _) => some b.isNone
  | .slice, .prim (.slice none _ _), .slice _ _ _ _ _ => some false
  | .slice, .slice _ _ _ _ _, .prim (.slice none _ _) => some false
  | .map, .prim (.map none), .prim (.map b) => some b.isNone
  | .map, .prim (.map none), .map _ => some false
  | .map, .map _, .prim (.map none) => some false
  | .func, .prim .nilFunc, .prim .nilFunc => some true
  | .func, .prim .nilFunc, .func _ _ _ => some false
  | .func, .func _ _ _, .prim .nilFunc => some false
  | .agg fs, x, y =>
    match aggCells x, aggCells y with
    | some l, some l' => ceqs fs l l'
    | _, _ => none
  | _, _, _ => none

def abin (op : BinOp) (t : Option EqT) (x y : AVal) : Option AVal :=
  match x, y with
  | .prim (.int k a), .prim (.int k' b) =>
    match op with
    | .shl | .shr => ashift op k a b
    | _ => if k = k' then aint op k a b else none
  | .prim (.string a), .prim (.string b) => astr op a b
  | x, y =>
    match t, op with
    | some t, .eql => (aeql t x y).map abool
    | some t, .neq => (aeql t x y).map fun b => abool !b
    | _, _ => none

def aun (op : UnOp) (x : AVal) : Option AVal :=
  match op, x with
  | .neg, .prim (.int k n) => aint .sub k 0 n
  | .xor, .prim (.int k n) => aint .xor k (if k.signed then -1 else k.max) n
  | .not, .prim (.bool b) => some (abool !b)
  | _, _ => none

/-- A bound of a slice expression. -/
def abound (x : Option AVal) (dflt : Nat) : Option Nat :=
  match x with
  | none => some dflt
  | some (.prim (.int _ i)) => if 0 ≤ i then some i.toNat else none
  | _ => none

def asliceArr (n st : Nat) (x : AVal) (lo hi : Option AVal) : Option AVal :=
  match x, abound lo 0, abound hi n with
  | .ptr b off, some l, some h => if l ≤ h ∧ h ≤ n then some (.slice b (off + l * st) (h - l) st (some (n - l))) else none
  | _, _, _ => none

def asliceStr (x : AVal) (lo hi : Option AVal) : Option AVal :=
  match x with
  | .prim (.string s) =>
    match abound lo 0, abound hi s.size with
    | some l, some h => if l ≤ h ∧ h ≤ s.size then some (.prim (.string (s.extract l h))) else none
    | _, _ => none
  | _ => none

def aslice (sz : Nat) (x : AVal) (lo hi mx : Option AVal) : Option AVal :=
  match x with
  | .slice b off len st cap =>
    match abound lo 0, abound hi len with
    | some l, some h =>
      if sz = st ∧ l ≤ h ∧ h ≤ cap.getD len then
        match mx with
        | none => some (.slice b (off + l * st) (h - l) st (cap.map (· - l)))
        | some m =>
          match hi, abound (some m) 0 with
          | some _, some m => if h ≤ m ∧ m ≤ cap.getD len then some (.slice b (off + l * st) (h - l) st (some (m - l))) else none
          | _, _ => none
      else none
    | _, _ => none
  | .prim (.slice none 0 0) =>
    match abound lo 0, abound hi 0, mx with
    | some 0, some 0, none => some nilSlice
    | _, _, _ => none
  | _ => none

def afieldAddr (off : Nat) (x : AVal) : Option AVal :=
  match x with
  | .ptr b o => some (.ptr b (o + off))
  | _ => none

def afield (n : Option Nat) (off : Nat) (x : AVal) : Option AVal :=
  match aggCells x with
  | some l => apart n l off
  | none => none

def aindexArr (len st : Nat) (x i : AVal) : Option AVal :=
  match x, i with
  | .ptr b off, .prim (.int _ n) => if 0 ≤ n ∧ n < len then some (.ptr b (off + n.toNat * st)) else none
  | _, _ => none

def aindexSl (sz : Nat) (x i : AVal) : Option AVal :=
  match x, i with
  | .slice b off len st _, .prim (.int _ n) => if sz = st ∧ 0 ≤ n ∧ n < len then some (.ptr b (off + n.toNat * st)) else none
  | _, _ => none

def aatArr (len st : Nat) (k : Option Nat) (x i : AVal) : Option AVal :=
  match aggCells x, i with
  | some l, .prim (.int _ n) => if 0 ≤ n ∧ n < len then apart k l (n.toNat * st) else none
  | _, _ => none

def aatStr (x i : AVal) : Option AVal :=
  match x, i with
  | .prim (.string s), .prim (.int _ n) => if 0 ≤ n then (s[n.toNat]?).map fun c => .prim (.int .u8 c.toNat) else none
  | _, _ => none

def aextract (x : AVal) (i : Nat) : Option AVal :=
  match x with
  | .tuple l => l[i]?
  | .prim (.tuple vs) => (vs[i]?).map .prim
  | _ => none

def anilCheck (x : AVal) : Option AVal :=
  match x with
  | .ptr b off => some (.ptr b off)
  | .func f first caps => some (.func f first caps)
  | .prim (.pointer (some a)) => some (.prim (.pointer (some a)))
  | _ => none

def aconv (k : IntKind) (x : AVal) : Option AVal :=
  match x with
  | .prim (.int _ n) => some (.prim (.int k (wrapF k n)))
  | _ => none

def alenStr (x : AVal) : Option AVal :=
  match x with
  | .prim (.string s) => some (int s.size)
  | _ => none

def alenSl (x : AVal) : Option AVal :=
  match x with
  | .slice _ _ n _ _ => some (int n)
  | .prim (.slice _ n _) => some (int n)
  | _ => none

def amin2 (mx : Bool) : AVal → AVal → Option AVal
  | .prim (.int k x), .prim (.int _ y) => some (.prim (.int k (if mx then (if iltF x y then y else x) else if iltF y x then y else x)))
  | _, _ => none

def aminl (mx : Bool) : AVal → List AVal → Option AVal
  | x, [] => some x
  | x, y :: rest =>
    match amin2 mx x y with
    | some z => aminl mx z rest
    | none => none

/-! ### Operations that read memory, make it, change it -/

def aload (n : Option Nat) (x : AVal) (H : AHeap) : Option AVal :=
  match x with
  | .ptr b off =>
    match H.get b with
    | some (.cells l) => apart n l off
    | _ => none
  | _ => none

/-- Are two keys one? -/
def keyEq (x y : Value) : Option Bool :=
  match x, y with
  | .int k a, .int k' b => if k = k' then some (a == b) else none
  | .string a, .string b => some (a == b)
  | _, _ => none

/-- The place of a key. -/
def findKey (k : Value) : List (Value × AVal) → Nat → Option (Option (Nat × AVal))
  | [], _ => some none
  | e :: es, i =>
    match keyEq k e.1 with
    | some true => some (some (i, e.2))
    | some false => findKey k es (i + 1)
    | none => none

/-- The entries of a map. -/
def entriesOf (m : AVal) (H : AHeap) : Option (List (Value × AVal)) :=
  match m with
  | .prim (.map none) => some []
  | .map r => match H.get r with
    | some (.map es) => some es
    | _ => none
  | _ => none

/-- The two kinds of keys. -/
def keyFits (str : Bool) : AVal → Option Value
  | .prim (.int k n) => if str then none else some (.int k n)
  | .prim (.string s) => if str then some (.string s) else none
  | _ => none

def alookup (str : Bool) (z : Value) (m k : AVal) (commaOk : Bool) (H : AHeap) : Option AVal :=
  match keyFits str k, entriesOf m H with
  | some k, some es =>
    match findKey k es 0 with
    | some (some (_, v)) => some (if commaOk then .tuple [v, abool true] else v)
    | some none => some (if commaOk then .tuple [.prim z, abool false] else .prim z)
    | none => none
  | _, _ => none

/-- The cells that a slice has. -/
def sliceCells (x : AVal) (size : Nat) (H : AHeap) : Option (List AVal) :=
  match x with
  | .slice b off len st _ =>
    match H.get b with
    | some (.cells l) => if st = size ∧ off + len * st ≤ l.length then some ((l.drop off).take (len * st)) else none
    | _ => none
  | .prim (.slice none 0 0) => some []
  | _ => none

/-- Cells as bytes. -/
def bytesOf : List AVal → Option (List UInt8)
  | [] => some []
  | .prim (.int .u8 n) :: rest =>
    match bytesOf rest with
    | some l => some (UInt8.ofNat n.toNat :: l)
    | none => none
  | _ :: _ => none

def toStr (x : AVal) (H : AHeap) : Option AVal :=
  match sliceCells x 1 H with
  | some l => (bytesOf l).map fun b => .prim (.string ⟨b.toArray⟩)
  | none => none

def alenMap (x : AVal) (H : AHeap) : Option AVal := (entriesOf x H).map fun es => int es.length

def byteCells (s : ByteArray) : List AVal := s.data.toList.map fun c => .prim (.int .u8 c.toNat)

/-- Cells are laid into a row, from a place on. -/
def layCells (H : AHeap) (b off : Nat) (cs : List AVal) : Option AHeap :=
  match H.get b with
  | some (.cells l) =>
    if off + cs.length ≤ l.length ∧ cs.all AVal.one then some (H.set b (.cells (l.take off ++ (cs ++ l.drop (off + cs.length))))) else none
  | _ => none

def astore (n : Nat) (x v : AVal) (H : AHeap) : Option AHeap :=
  match x with
  | .ptr b off => if v.cells.length = n then layCells H b off v.cells else none
  | _ => none

def amapUpdate (str : Bool) (m k v : AVal) (H : AHeap) : Option AHeap :=
  match keyFits str k, m with
  | some k, .map r =>
    match H.get r with
    | some (.map es) =>
      match findKey k es 0 with
      | some (some (i, _)) => some (H.set r (.map (es.set i (k, v))))
      | some none => some (H.set r (.map (es ++ [(k, v)])))
      | none => none
    | _ => none
  | _, _ => none

def adelete (str : Bool) (m k : AVal) (H : AHeap) : Option AHeap :=
  match keyFits str k, m with
  | some k, .map r =>
    match H.get r with
    | some (.map es) =>
      match findKey k es 0 with
      | some (some (i, _)) => some (H.set r (.map (es.eraseIdx i)))
      | some none => some (H.set r (.map es))
      | none => none
    | _ => none
  | _, _ => none

/-- What is appended: its cells, and how many elements. -/
def appended (size : Nat) (z : List AVal) (zeros : Bool) (x : AVal) (H : AHeap) : Option (List AVal × Nat) :=
  match zeros with
  | true =>
    match x with
    | .prim (.int .i64 n) => if 0 ≤ n ∧ n ≤ 2 ^ 40 then some (rep n.toNat z, n.toNat) else none
    | _ => none
  | false =>
    match x with
    | .prim (.string s) => if size = 1 then some (byteCells s, s.size) else none
    | .slice b off len st cap => (sliceCells (.slice b off len st cap) size H).map fun l => (l, len)
    | .prim (.slice none 0 0) => some ([], 0)
    | _ => none

/-- The bound of what is appended to. -/
def appendFits (by_ n : Nat) : Bool := decide ((2 * n + 1000) * by_ ≤ 2 ^ 47 ∧ n ≤ 2 ^ 40)

def aappend (size by_ : Nat) (z : List AVal) (zeros : Bool) (s x : AVal) (H : AHeap) : Option (AVal × AHeap) :=
  match appended size z zeros x H with
  | some (new, n) =>
    match s with
    | .prim (.slice none 0 0) =>
      match Nat.beq n 0 with
      | true => some (nilSlice, H)
      | false => if appendFits by_ n then some (.slice H.n 0 n size none, H.push (.cells new)) else none
    | .slice b off len st cap =>
      if st = size then
        match Nat.beq n 0 with
        | true => some (.slice b off len st cap, H)
        | false =>
          if appendFits by_ (len + n) ∧ new.all AVal.one then
            match cap with
            | some c =>
              if len + n ≤ c then
                (layCells H b (off + len * st) new).map fun H' => (.slice b off (len + n) st (some c), H')
              else
                (sliceCells (.slice b off len st cap) size H).map fun old => (.slice H.n 0 (len + n) st none, H.push (.cells (old ++ new)))
            | none =>
              (sliceCells (.slice b off len st cap) size H).map fun old => (.slice H.n 0 (len + n) st none, (H.kill b).push (.cells (old ++ new)))
          else none
      else none
    | _ => none
  | none => none

/-- What is copied: its cells, and how many elements. -/
def copied (size : Nat) (x : AVal) (H : AHeap) : Option (List AVal × Nat) :=
  match x with
  | .prim (.string s) => if size = 1 then some (byteCells s, s.size) else none
  | .slice b off len st cap => (sliceCells (.slice b off len st cap) size H).map fun l => (l, len)
  | .prim (.slice none 0 0) => some ([], 0)
  | _ => none

def acopy (size : Nat) (d x : AVal) (H : AHeap) : Option (AVal × AHeap) :=
  match copied size x H with
  | some (l, m) =>
    match d with
    | .slice b off len st _ =>
      if st = size then
        match Nat.beq (min m len) 0 with
        | true => some (int 0, H)
        | false => (layCells H b off (l.take (min m len * size))).map fun H' => (int (min m len : Nat), H')
      else none
    | .prim (.slice none 0 0) => some (int 0, H)
    | _ => none
  | none => none

def aclearMap (x : AVal) (H : AHeap) : Option AHeap :=
  match x with
  | .map r =>
    match H.get r with
    | some (.map _) => some (H.set r (.map []))
    | _ => none
  | _ => none

def aclearSl (size : Nat) (z : List AVal) (x : AVal) (H : AHeap) : Option AHeap :=
  match x with
  | .slice b off len st _ =>
    if st = size then
      match Nat.beq len 0 with
      | true => some H
      | false => layCells H b off (rep len z)
    else none
  | .prim (.slice none _ _) => some H
  | _ => none

def anext (x : AVal) (isString : Bool) (H : AHeap) : Option (AVal × AHeap) :=
  match x, isString with
  | .ptr r 0, true =>
    match H.get r with
    | some (.iter s pos) =>
      if pos < s.size then
        match Utf8.decode s pos with
        | (c, width) => some (.tuple [abool true, int pos, .prim (.int .i32 c)], H.set r (.iter s (pos + width)))
      else some (.tuple [abool false], H)
    | _ => none
  | .ptr r 0, false =>
    match H.get r with
    | some (.miter m) =>
      match H.get m with
      | some (.map []) => some (.tuple [abool false], H)
      | _ => none
    | _ => none
  | _, _ => none

/-! ### Compiled operations -/

inductive AOp where
  | move (x : Operand)
  | pick (c a b : Operand)
  | build (z : List Value) (parts : List (Nat × Nat × Operand))
  | nilCheck (x : Operand)
  | bin (op : BinOp) (t : Option EqT) (x y : Operand)
  | un (op : UnOp) (x : Operand)
  | conv (k : IntKind) (x : Operand)
  | convStr (x : Operand)
  | makeFunc (f : FuncId) (first caps : List Operand)
  | sliceArr (n st : Nat) (x : Operand) (lo hi : Option Operand)
  | sliceStr (x : Operand) (lo hi : Option Operand)
  | slice (st : Nat) (x : Operand) (lo hi mx : Option Operand)
  | field (off : Nat) (x : Operand)
  | part (n : Option Nat) (off : Nat) (x : Operand)
  | indexArr (len st : Nat) (x i : Operand)
  | indexSl (st : Nat) (x i : Operand)
  | atArr (len st : Nat) (k : Option Nat) (x i : Operand)
  | atStr (x i : Operand)
  | extract (x : Operand) (i : Nat)
  | lenStr (x : Operand)
  | lenSl (x : Operand)
  | lenC (n : Nat)
  | minmax (mx : Bool) (x : Operand) (rest : List Operand)
  | same (x : Operand)
  | capSl (x : Operand)
  | fail
  -- reads
  | load (n : Option Nat) (x : Operand)
  | lookup (str : Bool) (z : Value) (m k : Operand) (ok : Bool)
  | toStr (x : Operand)
  | lenMap (x : Operand)
  -- makes
  | alloc (z : List Value)
  | box (x : Operand)
  | buildSlice (st len : Nat) (z : List Value) (parts : List (Nat × Nat × Operand))
  | makeMap
  | makeSlice (by_ : Nat) (z : List Value) (st : Nat) (l c : Operand)
  | rangeStr (x : Operand)
  | rangeMap (x : Operand)
  | toBytes (x : Operand)
  -- changes
  | store (n : Nat) (x v : Operand)
  | mapUpdate (str : Bool) (m k v : Operand)
  | next (x : Operand) (isString : Bool)
  | append (st by_ : Nat) (z : List Value) (zeros : Bool) (s x : Operand)
  | copy (st : Nat) (d x : Operand)
  | clearMap (x : Operand)
  | clearSl (st : Nat) (z : List Value) (x : Operand)
  | delete (str : Bool) (m k : Operand)
  | call (f : FuncId) (args : List Operand)
  | callV (x : Operand) (args : List Operand)

/-- 0: touches no memory; 1: reads it; 2: makes some; 3: changes it, or calls. -/
def AOp.kind : AOp → Nat
  | .load .. | .lookup .. | .toStr .. | .lenMap .. => 1
  | .alloc .. | .box .. | .buildSlice .. | .makeMap | .makeSlice .. | .rangeStr .. | .toBytes .. => 2
  | .store .. | .mapUpdate .. | .next .. | .rangeMap .. | .append .. | .copy .. | .clearMap .. | .clearSl .. | .delete .. | .call .. | .callV .. => 3
  | _ => 0

/-- What an operation names. -/
def AOp.operands : AOp → List Operand
  | .move x | .nilCheck x | .un _ x | .conv _ x | .convStr x | .field _ x | .part _ _ x | .extract x _ | .lenStr x | .lenSl x | .same x | .capSl x => [x]
  | .load _ x | .toStr x | .lenMap x | .box x | .rangeStr x | .rangeMap x | .toBytes x | .next x _ | .clearMap x | .clearSl _ _ x => [x]
  | .pick c a b => [c, a, b]
  | .build _ parts | .buildSlice _ _ _ parts => parts.map fun p => p.2.2
  | .bin _ _ x y | .indexArr _ _ x y | .indexSl _ x y | .atArr _ _ _ x y | .atStr x y => [x, y]
  | .makeFunc _ first caps => first ++ caps
  | .sliceArr _ _ x lo hi | .sliceStr x lo hi => x :: (lo.toList ++ hi.toList)
  | .slice _ x lo hi mx => x :: (lo.toList ++ (hi.toList ++ mx.toList))
  | .lenC _ | .fail | .alloc _ | .makeMap => []
  | .minmax _ x rest => x :: rest
  | .lookup _ _ m k _ => [m, k]
  | .makeSlice _ _ _ l c => [l, c]
  | .store _ x v => [x, v]
  | .mapUpdate _ m k v => [m, k, v]
  | .append _ _ _ _ s x => [s, x]
  | .copy _ d x => [d, x]
  | .delete _ m k => [m, k]
  | .call _ args => args
  | .callV x args => x :: args

def prims (z : List Value) : List AVal := z.map .prim

section
variable (ρ : Operand → AVal)

def pureOp : AOp → Option AVal
  | .move x => some (ρ x)
  | .pick c a b =>
    match ρ c with
    | .prim (.bool true) => some (ρ a)
    | .prim (.bool false) => some (ρ b)
    | _ => none
  | .build z parts => (afill (prims z) (parts.map fun p => (p.1, p.2.1, ρ p.2.2))).map .agg
  | .nilCheck x => anilCheck (ρ x)
  | .bin op t x y => abin op t (ρ x) (ρ y)
  | .un op x => aun op (ρ x)
  | .conv k x => aconv k (ρ x)
  | .convStr x =>
    match ρ x with
    | .prim (.string s) => some (.prim (.string s))
    | _ => none
  | .makeFunc f first caps => some (.func f (first.map ρ) (caps.map ρ))
  | .same x =>
    match ρ x with
    | .slice b off len st cap => some (.slice b off len st cap)
    | _ => none
  | .capSl x =>
    match ρ x with
    | .slice _ _ _ _ (some c) => some (int c)
    | .prim (.slice _ _ c) => some (int c)
    | _ => none
  | .sliceArr n st x lo hi => asliceArr n st (ρ x) (lo.map ρ) (hi.map ρ)
  | .sliceStr x lo hi => asliceStr (ρ x) (lo.map ρ) (hi.map ρ)
  | .slice st x lo hi mx => aslice st (ρ x) (lo.map ρ) (hi.map ρ) (mx.map ρ)
  | .field off x => afieldAddr off (ρ x)
  | .part n off x => afield n off (ρ x)
  | .indexArr len st x i => aindexArr len st (ρ x) (ρ i)
  | .indexSl st x i => aindexSl st (ρ x) (ρ i)
  | .atArr len st k x i => aatArr len st k (ρ x) (ρ i)
  | .atStr x i => aatStr (ρ x) (ρ i)
  | .extract x i => aextract (ρ x) i
  | .lenStr x => alenStr (ρ x)
  | .lenSl x => alenSl (ρ x)
  | .lenC n => some (int n)
  | .minmax mx x rest => aminl mx (ρ x) (rest.map ρ)
  | _ => none

def readOp (H : AHeap) : AOp → Option AVal
  | .load n x => aload n (ρ x) H
  | .lookup str z m k ok => alookup str z (ρ m) (ρ k) ok H
  | .toStr x => toStr (ρ x) H
  | .lenMap x => alenMap (ρ x) H
  | _ => none

/-- What is made, and the value that leads to it, of its number. -/
def makeOp : AOp → Option (AObj × (Nat → AVal))
  | .alloc z => some (.cells (prims z), fun b => .ptr b 0)
  | .box x => some (.cells (ρ x).cells, fun b => .ptr b 0)
  | .buildSlice st len z parts =>
    match afill (rep len (prims z)) (parts.map fun p => (p.1, p.2.1, ρ p.2.2)) with
    | some l => some (.cells l, fun b => .slice b 0 len st (some len))
    | none => none
  | .makeMap => some (.map [], fun b => .map b)
  | .makeSlice by_ z st l c =>
    match ρ l, ρ c with
    | .prim (.int .i64 l), .prim (.int .i64 c) =>
      if 0 ≤ l ∧ l ≤ c ∧ c ≤ 2 ^ 40 ∧ by_ * c ≤ 2 ^ 47 then
        some (.cells (rep c.toNat (prims z)), fun b => .slice b 0 l.toNat st (some c.toNat))
      else none
    | _, _ => none
  | .rangeStr x =>
    match ρ x with
    | .prim (.string s) => some (.iter s 0, fun b => .ptr b 0)
    | _ => none
  | .toBytes x =>
    match ρ x with
    | .prim (.string s) => some (.cells (byteCells s), fun b => .slice b 0 s.size 1 none)
    | _ => none
  | _ => none

def arangeMap (x : AVal) (H : AHeap) : Option (AVal × AHeap) :=
  match x with
  | .map m =>
    match H.get m with
    | some (.map _) => some (.ptr H.n 0, H.push (.miter m))
    | _ => none
  | _ => none

/-- What calls do: handed to the operations. -/
abbrev Callee := FuncId → List AVal → AHeap → Option (AVal × AHeap)

def thenUnit (x : Option AHeap) : Option (AVal × AHeap) :=
  match x with
  | some H => some (unit, H)
  | none => none

def effOp (cl : Callee) (H : AHeap) : AOp → Option (AVal × AHeap)
  | .store n x v => thenUnit (astore n (ρ x) (ρ v) H)
  | .mapUpdate str m k v => thenUnit (amapUpdate str (ρ m) (ρ k) (ρ v) H)
  | .next x isString => anext (ρ x) isString H
  | .rangeMap x => arangeMap (ρ x) H
  | .append st by_ z zeros s x => aappend st by_ (prims z) zeros (ρ s) (ρ x) H
  | .copy st d x => acopy st (ρ d) (ρ x) H
  | .clearMap x => thenUnit (aclearMap (ρ x) H)
  | .clearSl st z x => thenUnit (aclearSl st (prims z) (ρ x) H)
  | .delete str m k => thenUnit (adelete str (ρ m) (ρ k) H)
  | .call f args => cl f (args.map ρ) H
  | .callV x args =>
    match ρ x with
    | .func f first caps => cl f (first ++ (args.map ρ ++ caps)) H
    | _ => none
  | _ => none

/-- One operation. -/
def stepOp (cl : Callee) (H : AHeap) (o : AOp) : Option (AVal × AHeap) :=
  match o.kind with
  | 0 => (pureOp ρ o).map fun v => (v, H)
  | 1 => (readOp ρ H o).map fun v => (v, H)
  | 2 =>
    match makeOp ρ o with
    | some (ob, v) => some (v H.n, H.push ob)
    | none => none
  | _ => effOp ρ cl H o
end

/-! ### Compiled code -/

/-- An operation with the slot that it writes, and its guard: a slot, and what it must have. -/
structure AStep where
  dst : Option Nat
  op : AOp
  guard : Option (Nat × Bool)

inductive ACode where
  | skip
  | ops (l : List AStep)
  /-- a region that draws its order, in one order; behind each operation the reads that are to be as they were -/
  | drawn (l : List (AStep × List AStep))
  | seq (a b : ACode)
  | cond (c : Operand) (a b : ACode)
  | block (id : Nat) (a : ACode)
  | loop (a : ACode)
  | exit (id : Nat)
  | ret

inductive AExit where
  | normal
  | exit (id : Nat)
  | ret

def wanted (g : Option (Nat × Bool)) (T : Fr) : Bool :=
  match g with
  | none => true
  | some (t, b) =>
    match slot T t with
    | .prim (.bool c) => c == b
    | _ => false

def runStep (cl : Callee) (s : AStep) (T : Fr) (H : AHeap) : Option (Fr × AHeap) :=
  match wanted s.guard T with
  | true =>
    match stepOp (aeval T) cl H s.op with
    | some (v, H') => some (aput T s.dst v, H')
    | none => none
  | false => some (aput T s.dst unit, H)

def runSteps (cl : Callee) : List AStep → Fr → AHeap → Option (Fr × AHeap)
  | [], T, H => some (T, H)
  | s :: l, T, H =>
    match runStep cl s T H with
    | some (T', H') => runSteps cl l T' H'
    | none => none


/-- Are two values of the model one? (a test that may say no) -/
def veq : Nat → Value → Value → Bool
  | _, .bool a, .bool b => a == b
  | _, .int k a, .int k' b => decide (k = k') && a == b
  | _, .string a, .string b => a.data.toList == b.data.toList
  | _, .pointer a, .pointer b => a == b
  | _, .slice a n c, .slice a' n' c' => a == a' && Nat.beq n n' && Nat.beq c c'
  | _, .map a, .map b => a == b
  | _, .nilFunc, .nilFunc => true
  | _, _, _ => false

def aeqList (e : AVal → AVal → Bool) : List AVal → List AVal → Bool
  | [], [] => true
  | x :: l, y :: l' => e x y && aeqList e l l'
  | _, _ => false

/-- Are two values one? (a test that may say no) -/
def aveq : Nat → AVal → AVal → Bool
  | n, .prim v, .prim w => veq n v w
  | _, .ptr b o, .ptr b' o' => Nat.beq b b' && Nat.beq o o'
  | _, .slice b o n s c, .slice b' o' n' s' c' => Nat.beq b b' && Nat.beq o o' && Nat.beq n n' && Nat.beq s s' && c == c'
  | _, .map r, .map r' => Nat.beq r r'
  | n + 1, .func f k l, .func f' k' l' => Nat.beq f f' && (aeqList (aveq n) k k' && aeqList (aveq n) l l')
  | n + 1, .agg l, .agg l' => aeqList (aveq n) l l'
  | n + 1, .tuple l, .tuple l' => aeqList (aveq n) l l'
  | _, _, _ => false

theorem veq_sound (n : Nat) (v w : Value) (h : veq n v w = true) : v = w := by
  cases v <;> cases w <;> simp [veq] at h
  case bool.bool => rw [h]
  case int.int => rw [h.1, h.2]
  case string.string a b => rw [show a = b from by cases a; cases b; congr]
  case pointer.pointer => rw [h]
  case slice.slice => rw [h.1.1, h.1.2, h.2]
  case map.map => rw [h]
  case nilFunc.nilFunc => rfl

theorem aeqList_sound {e : AVal → AVal → Bool} (he : ∀ v w, e v w = true → v = w) : ∀ l l', aeqList e l l' = true → l = l'
  | [], [], _ => rfl
  | x :: l, y :: l', h => by
    simp [aeqList] at h
    rw [he _ _ h.1, aeqList_sound he l l' h.2]
  | [], _ :: _, h => by simp [aeqList] at h
  | _ :: _, [], h => by simp [aeqList] at h

theorem aveq_sound : ∀ (n : Nat) (v w : AVal), aveq n v w = true → v = w := by
  intro n
  induction n with
  | zero =>
    intro v w h
    cases v <;> cases w <;> simp [aveq] at h
    case prim.prim => rw [veq_sound _ _ _ h]
    case ptr.ptr => rw [h.1, h.2]
    case slice.slice => obtain ⟨⟨⟨⟨h1, h2⟩, h3⟩, h4⟩, h5⟩ := h; rw [h1, h2, h3, h4, h5]
    case map.map => rw [h]
  | succ n ih =>
    intro v w h
    cases v <;> cases w <;> simp [aveq] at h
    case prim.prim => rw [veq_sound _ _ _ h]
    case ptr.ptr => rw [h.1, h.2]
    case slice.slice => obtain ⟨⟨⟨⟨h1, h2⟩, h3⟩, h4⟩, h5⟩ := h; rw [h1, h2, h3, h4, h5]
    case map.map => rw [h]
    case func.func => rw [h.1, aeqList_sound ih _ _ h.2.1, aeqList_sound ih _ _ h.2.2]
    case agg.agg => rw [aeqList_sound ih _ _ h]
    case tuple.tuple => rw [aeqList_sound ih _ _ h]

/-- The reads that are to be as they were. -/
def recheck (eqv : AVal → AVal → Bool) (T : Fr) (H : AHeap) : List AStep → Bool
  | [] => true
  | r :: l =>
    (match wanted r.guard T with
     | false => true
     | true =>
       match readOp (aeval T) H r.op, r.dst with
       | some v, some d => eqv v (slot T d)
       | _, _ => false) && recheck eqv T H l

def runDrawn (eqv : AVal → AVal → Bool) (cl : Callee) : List (AStep × List AStep) → Fr → AHeap → Option (Fr × AHeap)
  | [], T, H => some (T, H)
  | (s, rs) :: l, T, H =>
    match runStep cl s T H with
    | some (T', H') =>
      match recheck eqv T' H' rs with
      | true => runDrawn eqv cl l T' H'
      | false => none
    | none => none

/-- The run of a code. -/
def exec (eqv : AVal → AVal → Bool) (cl : Callee) : Nat → ACode → Fr → AHeap → Option (AExit × Fr × AHeap)
  | 0, _, _, _ => none
  | k + 1, c, T, H =>
    match c with
    | .skip => some (.normal, T, H)
    | .ops l =>
      match runSteps cl l T H with
      | some (T', H') => some (.normal, T', H')
      | none => none
    | .drawn l =>
      match runDrawn eqv cl l T H with
      | some (T', H') => some (.normal, T', H')
      | none => none
    | .seq a b =>
      match exec eqv cl k a T H with
      | some (.normal, T', H') => exec eqv cl k b T' H'
      | r => r
    | .cond c a b =>
      match aeval T c with
      | .prim (.bool true) => exec eqv cl k a T H
      | .prim (.bool false) => exec eqv cl k b T H
      | _ => none
    | .block id a =>
      match exec eqv cl k a T H with
      | some (.exit i, T', H') => if i = id then some (.normal, T', H') else some (.exit i, T', H')
      | r => r
    | .loop a =>
      match exec eqv cl k a T H with
      | some (.normal, T', H') => exec eqv cl k (.loop a) T' H'
      | r => r
    | .exit id => some (.exit id, T, H)
    | .ret => some (.ret, T, H)

/-- A result: a slot, or a variable. -/
inductive ARes where
  | tmp (t : Nat)
  | cell (t : Nat) (n : Option Nat)

/-- A compiled function. -/
structure AFunc where
  code : ACode
  results : List ARes

def result (T : Fr) (H : AHeap) : ARes → Option AVal
  | .tmp t => some (slot T t)
  | .cell t n => aload n (slot T t) H

def results (T : Fr) (H : AHeap) : List ARes → Option (List AVal)
  | [] => some []
  | r :: l =>
    match result T H r with
    | some v =>
      match results T H l with
      | some vs => some (v :: vs)
      | none => none
    | none => none

def asOne : List AVal → AVal
  | [v] => v
  | l => .tuple l

def argFrame : List AVal → Nat → Fr → Fr
  | [], _, T => T
  | v :: l, i, T => argFrame l (i + 1) (aput T (some i) v)

/-- A function's call, of what its callees do. -/
def callF (eqv : AVal → AVal → Bool) (cl : Callee) (fuel : Nat) (f : AFunc) (args : List AVal) (H : AHeap) : Option (AVal × AHeap) :=
  match exec eqv cl fuel f.code (argFrame args 0 .leaf) H with
  | some (.normal, T, H') | some (.ret, T, H') =>
    match results T H' f.results with
    | some vs => some (asOne vs, H')
    | none => none
  | _ => none

/-- The calls: by a table of compiled functions, and of functions that are answered at once; as deep as so many. -/
def call (eqv : AVal → AVal → Bool) (X : FuncId → Option (List AVal → AHeap → Option (AVal × AHeap))) (A : FuncId → Option AFunc) (fuel : Nat) : Nat → Callee
  | 0 => fun _ _ _ => none
  | n + 1 => fun f args H =>
    match X f with
    | some x => x args H
    | none =>
      match A f with
      | some af => callF eqv (call eqv X A fuel n) fuel af args H
      | none => none
end Go.AM
