/- Operations that touch no memory: the abstract machine's are the model's. No condition. -/
import Derived.Test.YtgmahpnjeclipaaGreatDoorAm4
import Derived.Laws.StructEq
namespace Go.AM
section
variable {P : Program}

theorem und_run {t : TypeId} {d : TypeDesc} (h : P.underlying t = some d) (w : World) : (underlying t).run P w = .ok d w := run_underlying h w
theorem info_run {t : TypeId} {i : TypeInfo} (h : P.info? t = some i) (w : World) : (typeInfo t).run P w = .ok i w := by simp [typeInfo, h]

theorem size_info {t : TypeId} {n : Nat} (h : size? P t = some n) : ∃ i, P.info? t = some i ∧ i.size = n := by
  unfold size? at h
  cases hi : P.info? t with
  | none => rw [hi] at h; cases h
  | some i => rw [hi] at h; exact ⟨i, rfl, by simpa using h⟩
theorem size_run {t : TypeId} {n : Nat} (h : size? P t = some n) (w : World) : (sizeOf t).run P w = .ok n w := by
  obtain ⟨i, hi, hn⟩ := size_info h
  simp [sizeOf, info_run hi, hn]
theorem zero_run {t : TypeId} {z : Value} (h : zero? P t = some z) (w : World) : (zeroValue t).run P w = .ok z w := by
  unfold zero? at h
  cases hi : P.info? t with
  | none => rw [hi] at h; cases h
  | some i =>
    rw [hi] at h
    have hz : i.zero = some z := h
    simp [zeroValue, info_run hi, hz]
theorem kind_run {t : TypeId} {k : Option Nat} (h : kindT P t = some k) (w : World) : (isAgg t).run P w = .ok k.isSome w ∧ ∃ n, size? P t = some n ∧ ∀ m, k = some m → m = n := by
  unfold kindT at h
  split at h <;> (try cases h)
  · rename_i d n hd hn; exact ⟨by simp [isAgg, und_run hd], _, hn, fun m e => by cases e; rfl⟩
  · rename_i d n hd hn; exact ⟨by simp [isAgg, und_run hd], _, hn, fun m e => by cases e; rfl⟩
  · rename_i d n h1 h2 hd hn
    refine ⟨?_, _, hn, fun m e => by cases e⟩
    simp only [isAgg, Sem.run_bind, und_run hd, Result.andThen_ok]
    cases d <;> first | rfl | exact absurd rfl (h1 _) | exact absurd rfl (h2 _ _)

/-! ### Values -/

theorem rel_prim {γ : Pl} {v w : Value} : rel γ (.prim v) w ↔ w = v := by simp [rel]

theorem rel_cells {γ : Pl} {v : AVal} {w : Value} (h : rel γ v w) : rels γ v.cells w.cells.toList := by
  cases v with
  | prim v =>
    rw [rel_prim] at h
    subst h
    exact rels_prims γ _
  | ptr b o => obtain ⟨c, s, z, e, rfl⟩ := (by simpa only [rel] using h); simpa [AVal.cells, Value.cells, rels, rel] using ⟨z, e⟩
  | slice b o n st cap =>
    have h' := h
    obtain ⟨c, s, z, a, k, e, rfl, _⟩ := (by simpa only [rel] using h)
    simpa [AVal.cells, Value.cells, rels] using h'
  | map r =>
    have h' := h
    obtain ⟨c, s, z, e, rfl⟩ := (by simpa only [rel] using h)
    simpa [AVal.cells, Value.cells, rels] using h'
  | func f a b =>
    have h' := h
    obtain ⟨fs, cs, rfl, _⟩ := (by simpa only [rel] using h)
    simpa [AVal.cells, Value.cells, rels] using h'
  | agg l =>
    obtain ⟨cs, rfl, r⟩ := (by simpa only [rel] using h)
    exact r
  | tuple l =>
    have h' := h
    obtain ⟨cs, rfl, _⟩ := (by simpa only [rel] using h)
    simpa [AVal.cells, Value.cells, rels] using h'

theorem rel_one {γ : Pl} {v : AVal} {w : Value} (h : rel γ v w) (ho : v.one = true) : Value.oneCell' w = true := by
  cases v with
  | prim v => rw [rel_prim] at h; subst h; cases w <;> simp_all [AVal.one, vone, Value.oneCell']
  | ptr b o => obtain ⟨c, s, z, e, rfl⟩ := (by simpa only [rel] using h); rfl
  | slice b o n st cap => obtain ⟨c, s, z, a, k, e, rfl, _⟩ := (by simpa only [rel] using h); rfl
  | map r => obtain ⟨c, s, z, e, rfl⟩ := (by simpa only [rel] using h); rfl
  | func f a b => obtain ⟨fs, cs, rfl, _⟩ := (by simpa only [rel] using h); rfl
  | agg l => simp [AVal.one] at ho
  | tuple l => simp [AVal.one] at ho

theorem rel_aggCells {γ : Pl} {x : AVal} {w : Value} {l : List AVal} (h : rel γ x w) (hl : aggCells x = some l) : ∃ cs, w = .agg cs ∧ rels γ l cs.toList := by
  cases x <;> simp [aggCells] at hl
  case agg l' =>
    subst hl
    simpa only [rel] using h
  case prim v =>
    rw [rel_prim] at h
    subst h
    cases w <;> simp at hl
    subst hl
    exact ⟨_, rfl, rels_prims γ _⟩

/-- The part of a row. -/
theorem part_run {γ : Pl} {t : TypeId} {k : Option Nat} {l : List AVal} {cs : Array Value} {off : Nat} {v : AVal} (hk : kindT P t = some k) (hr : rels γ l cs.toList)
    (h : apart k l off = some v) (w : World) : ∃ v', (part t cs off).run P w = .ok v' w ∧ rel γ v v' := by
  obtain ⟨h1, n, hn, hm⟩ := kind_run hk w
  cases k with
  | none =>
    simp only [apart] at h
    obtain ⟨v', e, r⟩ := rels_get hr off v h
    have e' : cs[off]? = some v' := by simpa using e
    exact ⟨v', by simp [part, h1, e'], r⟩
  | some m =>
    obtain rfl := hm m rfl
    simp only [apart] at h
    split at h <;> simp at h
    rename_i hle
    subst h
    refine ⟨.agg (cs.extract off (off + m)), by simp [part, h1, size_run hn], ?_⟩
    simp only [rel]
    refine ⟨_, rfl, ?_⟩
    have := rels_take m (rels_drop off hr)
    simpa [Array.toList_extract] using this

theorem int_arith (op : BinOp) (k : IntKind) (x y : Int) (v : AVal) (w : World) (hs : op ≠ .shl) (hs' : op ≠ .shr) (h : aint op k x y = some v) :
    ∃ v', (match op with
      | .add | .sub | .mul => Op.intArith op k x y
      | .quo | .rem => Op.intDiv op k x y
      | .and | .or | .xor | .andNot => Op.intBits op k x y
      | _ => Op.intCmp op x y).run P w = .ok v' w ∧ v = .prim v' := by
  cases op <;> simp only [aint, Option.some.injEq] at h
  case add => subst h; exact ⟨_, rfl, by rw [wrapF_eq]⟩
  case sub => subst h; exact ⟨_, rfl, by rw [wrapF_eq]⟩
  case mul => subst h; exact ⟨_, rfl, by rw [wrapF_eq]⟩
  case shl => cases h
  case shr => cases h
  case quo =>
    split at h <;> simp at h
    rename_i hy
    rw [ieqF_eq] at hy
    have hy' : y ≠ 0 := by simpa using hy
    subst h
    exact ⟨_, by simp only [Op.intDiv]; rw [if_neg hy']; rfl, by rw [wrapF_eq]⟩
  case rem =>
    split at h <;> simp at h
    rename_i hy
    rw [ieqF_eq] at hy
    have hy' : y ≠ 0 := by simpa using hy
    subst h
    exact ⟨_, by simp only [Op.intDiv]; rw [if_neg hy']; rfl, rfl⟩
  case and => subst h; exact ⟨_, rfl, by rw [iandF_eq]⟩
  case or => subst h; exact ⟨_, rfl, by rw [iorF_eq]⟩
  case xor => subst h; exact ⟨_, rfl, by rw [ixorF_eq]⟩
  case andNot => subst h; exact ⟨_, rfl, rfl⟩
  case eql => subst h; exact ⟨_, rfl, by rw [abool, ieqF_eq]⟩
  case neq => subst h; exact ⟨_, rfl, by rw [abool, ieqF_eq]; rfl⟩
  case lss => subst h; exact ⟨_, rfl, by rw [abool, iltF_eq]⟩
  case leq => subst h; exact ⟨_, rfl, by rw [abool, iltF_eq]; congr; rw [← decide_not]; congr 1; simp⟩
  case gtr => subst h; exact ⟨_, rfl, by rw [abool, iltF_eq]⟩
  case geq => subst h; exact ⟨_, rfl, by rw [abool, iltF_eq]; congr; rw [← decide_not]; congr 1; simp⟩

theorem shift_run (op : BinOp) (k yk : IntKind) (x y : Int) (v : AVal) (w : World) (h : ashift op k x y = some v) :
    ∃ v', (Op.shift op k x yk y).run P w = .ok v' w ∧ v = .prim v' := by
  unfold ashift at h
  split at h
  · cases h
  · rename_i n
    have h0 : ¬ ((Int.ofNat n) < 0) := by simp
    split at h <;> simp at h
    · subst h
      exact ⟨_, by simp only [Op.shift]; rw [if_neg h0]; rfl, by rw [wrapF_eq]; simp⟩
    · subst h
      exact ⟨_, by simp only [Op.shift]; rw [if_neg h0]; rfl, by simp⟩

theorem str_run (op : BinOp) (x y : ByteArray) (v : AVal) (w : World) (h : astr op x y = some v) : ∃ v', (Op.stringOp op x y).run P w = .ok v' w ∧ v = .prim v' := by
  cases op <;> simp only [astr, Option.some.injEq] at h
  case add =>
    split at h <;> simp at h
    rename_i hle
    subst h
    have : ¬ (((x.size + y.size : Nat) : Int) > IntKind.i64.max) := by
      simp [IntKind.max, IntKind.signed, IntKind.bits]; omega
    exact ⟨_, by simp only [Op.stringOp]; rw [if_neg this]; rfl, rfl⟩
  all_goals first | cases h; done | (subst h; exact ⟨_, by simp only [Op.stringOp]; rfl, rfl⟩)

/-! ### Equality -/

theorem ceqs_length : ∀ {f : List Leaf} {a a' : List AVal} {r : Bool}, ceqs f a a' = some r → a.length = f.length ∧ a'.length = f.length
  | [], [], [], _, _ => ⟨rfl, rfl⟩
  | f :: fs, x :: l, y :: l', r, h => by
    simp only [ceqs] at h
    split at h <;> simp at h
    rename_i hq
    simp [ceqs_length hq]
  | [], _ :: _, _, _, h => by simp [ceqs] at h
  | [], [], _ :: _, _, h => by simp [ceqs] at h
  | _ :: _, [], _, _, h => by simp [ceqs] at h
  | _ :: _, _ :: _, [], _, h => by simp [ceqs] at h

theorem ceqs_split : ∀ {f g : List Leaf} {a a' : List AVal} {r : Bool}, ceqs (f ++ g) a a' = some r →
    ∃ x y, ceqs f (a.take f.length) (a'.take f.length) = some x ∧ ceqs g (a.drop f.length) (a'.drop f.length) = some y ∧ r = (x && y)
  | [], g, a, a', r, h => ⟨true, r, by simp [ceqs], by simpa using h, by simp⟩
  | u :: f, g, p :: a, p' :: a', r, h => by
    simp only [List.cons_append, ceqs] at h
    split at h <;> simp at h
    rename_i c q hp hq
    obtain ⟨x, y, h1, h2, rfl⟩ := ceqs_split hq
    exact ⟨c && x, y, by simp [ceqs, hp, h1], by simpa using h2, by rw [← h, Bool.and_assoc]⟩
  | _ :: _, _, [], _, _, h => by simp [ceqs] at h
  | _ :: _, _, _ :: _, [], _, h => by simp [ceqs] at h

/-- What the model's equality says of plain values. -/
def EqOk (P : Program) (D : Nat) (t : TypeId) (f : List Leaf) : Prop :=
  ∀ (w : World) (γ : Pl) (o : Nat) (l l' : List AVal) (cs cs' : Array Value) (r : Bool), rels γ l cs.toList → rels γ l' cs'.toList →
    ceqs f ((l.drop o).take f.length) ((l'.drop o).take f.length) = some r →
    ∃ v v', (part t cs o).run P w = .ok v w ∧ (part t cs' o).run P w = .ok v' w ∧ (Op.equalIn D t v v').run P w = .ok r w ∧
      (∀ n, kindT P t = some (some n) → v = .agg (cs.extract o (o + n)) ∧ v' = .agg (cs'.extract o (o + n)))

theorem take1 {α : Type} {l : List α} {o : Nat} {x : α} {r : List α} (h : (l.drop o).take 1 = x :: r) : l[o]? = some x := by
  rw [← List.head?_drop]
  cases hd : l.drop o with
  | nil => rw [hd] at h; simp at h
  | cons y s => rw [hd] at h; simp at h; simp [h.1]

theorem eq_leaf {t : TypeId} {D : Nat} {f : Leaf} {d : TypeDesc} (hd : P.underlying t = some d)
    (hf : (∃ k, f = .int ∧ d = .int k) ∨ (f = .bool ∧ d = .bool) ∨ (f = .str ∧ d = .string)) : EqOk P (D + 1) t [f] := by
  intro w γ o l l' cs cs' r hr hr' h
  have hagg : (isAgg t).run P w = .ok false w := by
    rcases hf with ⟨k, rfl, rfl⟩ | ⟨rfl, rfl⟩ | ⟨rfl, rfl⟩ <;> simp [isAgg, und_run hd]
  have hnk : ∀ n, kindT P t = some (some n) → False := by
    intro n e
    have := (kind_run e w).1
    rw [hagg] at this
    simp at this
  simp only [List.length_singleton] at h
  cases h1 : (l.drop o).take 1 with
  | nil => rw [h1] at h; simp [ceqs] at h
  | cons x s =>
    cases h2 : (l'.drop o).take 1 with
    | nil => rw [h1, h2] at h; simp [ceqs] at h
    | cons y s' =>
      rw [h1, h2] at h
      have e1 := take1 h1
      have e2 := take1 h2
      have hs : s = [] := by
        have := congrArg List.length h1
        simp only [List.length_take, List.length_cons] at this
        exact List.length_eq_zero_iff.1 (by omega)
      have hs' : s' = [] := by
        have := congrArg List.length h2
        simp only [List.length_take, List.length_cons] at this
        exact List.length_eq_zero_iff.1 (by omega)
      subst hs hs'
      obtain ⟨v, g1, r1⟩ := rels_get hr o x e1
      obtain ⟨v', g2, r2⟩ := rels_get hr' o y e2
      have g1' : cs[o]? = some v := by simpa using g1
      have g2' : cs'[o]? = some v' := by simpa using g2
      refine ⟨v, v', by simp [part, hagg, g1'], by simp [part, hagg, g2'], ?_, fun n e => (hnk n e).elim⟩
      simp only [ceqs] at h
      split at h <;> simp at h
      rename_i a b hc hb
      have hb' : b = true := by simpa using hb.symm
      subst hb'
      subst h
      rcases hf with ⟨k, rfl, rfl⟩ | ⟨rfl, rfl⟩ | ⟨rfl, rfl⟩
      · cases x <;> cases y <;> simp only [ceq] at hc <;> try cases hc
        rename_i p q
        cases p <;> cases q <;> simp [] at hc
        obtain ⟨rfl, rfl⟩ := hc
        rw [rel_prim] at r1 r2
        subst r1 r2
        simp [run_equalIn_int (P := P) w D t _ k _ _ hd, ieqF_eq]
      · cases x <;> cases y <;> simp only [ceq] at hc <;> try cases hc
        rename_i p q
        cases p <;> cases q <;> simp [] at hc
        subst hc
        rw [rel_prim] at r1 r2
        subst r1 r2
        simp [Op.equalIn, run_underlying hd]
      · cases x <;> cases y <;> simp only [ceq] at hc <;> try cases hc
        rename_i p q
        cases p <;> cases q <;> simp [] at hc
        subst hc
        rw [rel_prim] at r1 r2
        subst r1 r2
        rw [run_equalIn_string (P := P) w D t _ _ hd, ByteArray.toList_eq, ByteArray.toList_eq]
        simp

theorem eq_fields {D : Nat} {flat : TypeId → Option (List Leaf)} (ih : ∀ t f, flat t = some f → EqOk P D t f) (w : World) (γ : Pl) (l l' : List AVal) (xs ys : Array Value)
    (hr : rels γ l xs.toList) (hr' : rels γ l' ys.toList) : ∀ (fs : List Field) (off : Nat) (f : List Leaf) (r : Bool), flatFields flat off fs = some f →
    ceqs f ((l.drop off).take f.length) ((l'.drop off).take f.length) = some r → (Op.eqFields D xs ys fs).run P w = .ok r w
  | [], off, f, r, hf, h => by
    simp only [flatFields, Option.some.injEq] at hf
    subst hf
    simp [ceqs] at h
    subst h
    simp [Op.eqFields]
  | g :: fs, off, f, r, hf, h => by
    simp only [flatFields] at hf
    split at hf
    · rename_i hg
      simp only [Bool.and_eq_true, bne_iff_ne, ne_eq] at hg
      obtain ⟨hname, hoff⟩ := hg
      have hoff := Nat.eq_of_beq_eq_true hoff
      cases hx : flat g.type with
      | none => rw [hx] at hf; cases hf
      | some x =>
        rw [hx] at hf
        simp only at hf
        cases hy : flatFields flat (off + x.length) fs with
        | none => rw [hy] at hf; cases hf
        | some y =>
          rw [hy] at hf
          simp only [Option.some.injEq] at hf
          subst hf
          obtain ⟨a, b, h1, h2, rfl⟩ := ceqs_split h
          rw [List.take_take, List.take_take] at h1
          rw [List.drop_take, List.drop_take, List.drop_drop, List.drop_drop] at h2
          simp only [List.length_append] at h1 h2
          rw [Nat.min_eq_left (by omega)] at h1
          rw [Nat.add_sub_cancel_left] at h2
          obtain ⟨v, v', p1, p2, q, _⟩ := ih _ _ hx w γ off l l' xs ys a hr hr' h1
          have ihl := eq_fields ih w γ l l' xs ys hr hr' fs (off + x.length) y b hy h2
          rw [← hoff] at p1 p2
          simp only [Op.eqFields, ne_eq, hname, not_false_eq_true, if_true, Sem.run_bind, p1, p2, q, Result.andThen_ok, Sem.run_ite, Sem.run_pure, ihl]
          cases a <;> simp
    · cases hf

theorem replicate_succ_flatten {α : Type} (k : Nat) (l : List α) : (List.replicate (k + 1) l).flatten = l ++ (List.replicate k l).flatten := by
  simp [List.replicate_succ]

theorem eq_elems {D : Nat} {e : TypeId} {f : List Leaf} (ih : EqOk P D e f) (w : World) (γ : Pl) (l l' : List AVal) (xs ys : Array Value)
    (hr : rels γ l xs.toList) (hr' : rels γ l' ys.toList) : ∀ (k i : Nat) (r : Bool),
    ceqs (List.replicate k f).flatten ((l.drop (i * f.length)).take (k * f.length)) ((l'.drop (i * f.length)).take (k * f.length)) = some r →
    (do
      for i in List.range' i k do
        if !(← Op.equalIn D e (← part e xs (i * f.length)) (← part e ys (i * f.length))) then return false
      pure true : Sem Bool).run P w = .ok r w
  | 0, i, r, h => by
    simp [ceqs] at h
    subst h
    simp
  | k + 1, i, r, h => by
    rw [replicate_succ_flatten] at h
    obtain ⟨a, b, h1, h2, rfl⟩ := ceqs_split h
    rw [List.take_take, List.take_take, Nat.min_eq_left (by rw [Nat.succ_mul]; omega)] at h1
    rw [List.drop_take, List.drop_take, List.drop_drop, List.drop_drop, show (k + 1) * f.length - f.length = k * f.length by rw [Nat.succ_mul]; omega,
      show i * f.length + f.length = (i + 1) * f.length by rw [Nat.succ_mul]] at h2
    obtain ⟨v, v', p1, p2, q, _⟩ := ih w γ (i * f.length) l l' xs ys a hr hr' h1
    have ihl := eq_elems ih w γ l l' xs ys hr hr' k (i + 1) b h2
    rw [List.range'_succ, List.forIn_cons]
    simp only [Sem.run_bind, p1, p2, q, Result.andThen_ok, Sem.run_ite]
    cases a
    · simp
    · simpa using ihl

theorem eq_flat : ∀ (d D : Nat) (t : TypeId) (f : List Leaf), flatL P d t = some f → d ≤ D → EqOk P D t f
  | 0, _, _, _, h, _ => by simp [flatL] at h
  | d + 1, 0, _, _, _, hD => by omega
  | d + 1, D + 1, t, f, h, hD => by
    have ih : ∀ t f, flatL P d t = some f → EqOk P D t f := fun t f hf => eq_flat d D t f hf (by omega)
    simp only [flatL] at h
    split at h
    · rename_i k n hd hn
      split at h <;> simp at h
      subst h
      exact eq_leaf hd (.inl ⟨k, rfl, rfl⟩)
    · rename_i n hd hn
      split at h <;> simp at h
      subst h
      exact eq_leaf hd (.inr (.inl ⟨rfl, rfl⟩))
    · rename_i n hd hn
      split at h <;> simp at h
      subst h
      exact eq_leaf hd (.inr (.inr ⟨rfl, rfl⟩))
    · rename_i fs n hd hn
      split at h
      · rename_i g hg
        split at h <;> simp at h
        rename_i hs
        obtain ⟨hheld, hlen⟩ := hs
        subst h
        intro w γ o l l' cs cs' r hr hr' hc
        have hk : kindT P t = some (some n) := by simp [kindT, hd, hn]
        have hagg := (kind_run hk w).1
        refine ⟨.agg (cs.extract o (o + n)), .agg (cs'.extract o (o + n)), by simp [part, hagg, size_run hn], by simp [part, hagg, size_run hn], ?_, fun m e => ?_⟩
        · have hfs : P.fieldsOf t = fs := by simp [Program.fieldsOf, hd]
          rw [run_equalIn_struct (P := P) w D t _ _ (by rw [hfs]; exact hd) hheld, hfs]
          have ha := rels_take n (rels_drop o hr)
          have hb := rels_take n (rels_drop o hr')
          refine eq_fields ih w γ ((l.drop o).take n) ((l'.drop o).take n) _ _ (by simpa [Array.toList_extract] using ha) (by simpa [Array.toList_extract] using hb) fs.toList 0 g r hg ?_
          simpa [hlen, List.take_take] using hc
        · rw [hk] at e; cases e; exact ⟨rfl, rfl⟩
      · cases h
    · rename_i k e n hd hn
      split at h
      · rename_i g m hg hm
        split at h <;> simp at h
        rename_i hs
        obtain ⟨hlen, hkm⟩ := hs
        subst h
        intro w γ o l l' cs cs' r hr hr' hc
        have hk : kindT P t = some (some n) := by simp [kindT, hd, hn]
        have hagg := (kind_run hk w).1
        refine ⟨.agg (cs.extract o (o + n)), .agg (cs'.extract o (o + n)), by simp [part, hagg, size_run hn], by simp [part, hagg, size_run hn], ?_, fun m e => ?_⟩
        · have ha := rels_take n (rels_drop o hr)
          have hb := rels_take n (rels_drop o hr')
          simp only [Op.equalIn, Sem.run_bind, und_run hd, Result.andThen_ok, size_run hm, Std.Legacy.Range.forIn_eq_forIn_range', Std.Legacy.Range.size, Nat.sub_zero, Nat.add_sub_cancel, Nat.div_one]
          have hflen : ((List.replicate k g).flatten).length = n := by simp [hlen, hkm]
          have := eq_elems (ih _ _ hg) w γ ((l.drop o).take n) ((l'.drop o).take n) (cs.extract o (o + n)) (cs'.extract o (o + n)) (by simpa [Array.toList_extract] using ha) (by simpa [Array.toList_extract] using hb) k 0 r
            (by
              rw [hflen] at hc
              have e1 : k * g.length = n := by rw [hlen, hkm]
              simpa [e1, List.take_take] using hc)
          rw [← hlen]
          simp only [Sem.run_bind] at this ⊢
          exact this
        · rw [hk] at e; cases e; exact ⟨rfl, rfl⟩
      · cases h
    · cases h
end
end Go.AM
