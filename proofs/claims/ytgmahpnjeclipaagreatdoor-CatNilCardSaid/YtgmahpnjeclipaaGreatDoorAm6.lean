/- Operations that touch no memory, second part. No condition. -/
import Derived.Test.YtgmahpnjeclipaaGreatDoorAm5
namespace Go.AM
section
variable {P : Program}

theorem eqGuard_plain (op : BinOp) (t : TypeId) (x y : Operand) (a b : Value) (w : World)
    (h : (∀ cs ds, a = .agg cs → b = .agg ds → P.eqGuardType P.depth t = false) ∧ (a = .nilIface → b = .nilIface → False)) :
    (eqGuard op t x y a b).run P w = .ok () w := by
  obtain ⟨h1, h2⟩ := h
  cases a <;> cases b <;> try (cases op <;> simp [eqGuard]; done)
  case agg.agg cs ds =>
    have := h1 cs ds rfl rfl
    cases op <;> simp [eqGuard, this]
  case nilIface.nilIface => exact (h2 rfl rfl).elim

theorem eqT_bool {t : TypeId} (h : eqT P t = some .bool) : P.underlying t = some .bool := by
  unfold eqT at h; split at h <;> try (first | cases h; done | assumption)
  all_goals
    split at h
    · split at h <;> simp at h
    · cases h
theorem eqT_ptr {t : TypeId} (h : eqT P t = some .ptr) : ∃ e, P.underlying t = some (.pointer e) := by
  unfold eqT at h; split at h <;> try (first | cases h; done | exact ⟨_, by assumption⟩)
  all_goals
    split at h
    · split at h <;> simp at h
    · cases h
theorem eqT_slice {t : TypeId} (h : eqT P t = some .slice) : ∃ e, P.underlying t = some (.slice e) := by
  unfold eqT at h; split at h <;> try (first | cases h; done | exact ⟨_, by assumption⟩)
  all_goals
    split at h
    · split at h <;> simp at h
    · cases h
theorem eqT_map {t : TypeId} (h : eqT P t = some .map) : ∃ k e, P.underlying t = some (.map k e) := by
  unfold eqT at h; split at h <;> try (first | cases h; done | exact ⟨_, _, by assumption⟩)
  all_goals
    split at h
    · split at h <;> simp at h
    · cases h
theorem eqT_func {t : TypeId} (h : eqT P t = some .func) : ∃ a b c, P.underlying t = some (.func a b c) := by
  unfold eqT at h; split at h <;> try (first | cases h; done | exact ⟨_, _, _, by assumption⟩)
  all_goals
    split at h
    · split at h <;> simp at h
    · cases h
theorem eqT_agg {t : TypeId} {l : List Leaf} (h : eqT P t = some (.agg l)) :
    flatL P 8 t = some l ∧ P.eqGuardType P.depth t = false ∧ ((∃ fs, P.underlying t = some (.struct fs)) ∨ ∃ k e, P.underlying t = some (.array k e)) := by
  unfold eqT at h; split at h <;> try (cases h; done)
  all_goals
    split at h <;> try (cases h; done)
    split at h <;> simp at h
    subst h
  · exact ⟨by assumption, by assumption, .inl ⟨_, by assumption⟩⟩
  · exact ⟨by assumption, by assumption, .inr ⟨_, _, by assumption⟩⟩

theorem eqi_bool (D : Nat) {t : TypeId} (h : P.underlying t = some .bool) (a b : Bool) (w : World) : (Op.equalIn (D + 1) t (.bool a) (.bool b)).run P w = .ok (a == b) w := by
  simp [Op.equalIn, und_run h]
theorem eqi_ptr1 (D : Nat) {t e : TypeId} (h : P.underlying t = some (.pointer e)) (b : Option Addr) (w : World) :
    (Op.equalIn (D + 1) t (.pointer none) (.pointer b)).run P w = .ok b.isNone w := by
  simp [Op.equalIn, und_run h]
theorem eqi_ptr2 (D : Nat) {t e : TypeId} (h : P.underlying t = some (.pointer e)) (a : Addr) (w : World) :
    (Op.equalIn (D + 1) t (.pointer (some a)) (.pointer none)).run P w = .ok false w := by
  simp [Op.equalIn, und_run h]
theorem eqi_slice1 (D : Nat) {t e : TypeId} (h : P.underlying t = some (.slice e)) (n k n' k' : Nat) (b : Option Addr) (w : World) :
    (Op.equalIn (D + 1) t (.slice none n k) (.slice b n' k')).run P w = .ok b.isNone w := by
  simp [Op.equalIn, und_run h]
theorem eqi_slice2 (D : Nat) {t e : TypeId} (h : P.underlying t = some (.slice e)) (n k n' k' : Nat) (a : Addr) (w : World) :
    (Op.equalIn (D + 1) t (.slice (some a) n k) (.slice none n' k')).run P w = .ok false w := by
  simp [Op.equalIn, und_run h]
theorem eqi_map1 (D : Nat) {t k e : TypeId} (h : P.underlying t = some (.map k e)) (b : Option Nat) (w : World) :
    (Op.equalIn (D + 1) t (.map none) (.map b)).run P w = .ok b.isNone w := by
  simp [Op.equalIn, und_run h]
theorem eqi_map2 (D : Nat) {t k e : TypeId} (h : P.underlying t = some (.map k e)) (a : Nat) (w : World) :
    (Op.equalIn (D + 1) t (.map (some a)) (.map none)).run P w = .ok false w := by
  simp [Op.equalIn, und_run h]
theorem eqi_func0 (D : Nat) {t : TypeId} {a b : Array TypeId} {c : Bool} (h : P.underlying t = some (.func a b c)) (w : World) :
    (Op.equalIn (D + 1) t .nilFunc .nilFunc).run P w = .ok true w := by
  simp [Op.equalIn, und_run h]
theorem eqi_func1 (D : Nat) {t : TypeId} {a b : Array TypeId} {c : Bool} (h : P.underlying t = some (.func a b c)) (f : Fn) (x y : Array Value) (w : World) :
    (Op.equalIn (D + 1) t .nilFunc (.func f x y)).run P w = .ok false w := by
  simp [Op.equalIn, und_run h]
theorem eqi_func2 (D : Nat) {t : TypeId} {a b : Array TypeId} {c : Bool} (h : P.underlying t = some (.func a b c)) (f : Fn) (x y : Array Value) (w : World) :
    (Op.equalIn (D + 1) t (.func f x y) .nilFunc).run P w = .ok false w := by
  simp [Op.equalIn, und_run h]

theorem flat_kind {d : Nat} {t : TypeId} {f : List Leaf} (h : flatL P (d + 1) t = some f) (ha : (∃ fs, P.underlying t = some (.struct fs)) ∨ ∃ k e, P.underlying t = some (.array k e)) :
    kindT P t = some (some f.length) := by
  simp only [flatL] at h
  rcases ha with ⟨fs, hd⟩ | ⟨k, e, hd⟩
  · rw [hd] at h
    cases hn : size? P t with
    | none => rw [hn] at h; simp at h
    | some n =>
      rw [hn] at h
      simp only [] at h
      split at h
      · split at h <;> simp at h
        rename_i hs
        subst h
        simp [kindT, hd, hn, hs.2]
      · cases h
  · rw [hd] at h
    cases hn : size? P t with
    | none => rw [hn] at h; simp at h
    | some n =>
      rw [hn] at h
      simp only [] at h
      split at h
      · split at h <;> simp at h
        rename_i hs
        subst h
        simp [kindT, hd, hn, hs.1, hs.2]
      · cases h

/-- A value that is compared here is none of those that the model compares in another way. -/
def cmpPlain (P : Program) (t : TypeId) (a b : Value) : Prop :=
  (∀ op : BinOp, ∀ x y w, (eqGuard op t x y a b).run P w = .ok () w) ∧
    (∀ w, (binOp .eql t a b).run P w = ((Op.equalIn 10000 t a b).run P w).andThen fun c w' => .ok (.bool c) w') ∧
    (∀ w, (binOp .neq t a b).run P w = ((Op.equalIn 10000 t a b).run P w).andThen fun c w' => .ok (.bool (!c)) w')

theorem eql_run {γ : Pl} {t : TypeId} {e : EqT} {x y : AVal} {x' y' : Value} {b : Bool} (he : eqT P t = some e) (h : aeql e x y = some b)
    (hx : rel γ x x') (hy : rel γ y y') (w : World) : (Op.equalIn 10000 t x' y').run P w = .ok b w ∧ cmpPlain P t x' y' := by
  have triv : ∀ a b : Value, (∀ cs ds, a = .agg cs → b = .agg ds → P.eqGuardType P.depth t = false) → (a = .nilIface → b = .nilIface → False) →
      (∀ w, (binOp .eql t a b).run P w = ((Op.equalIn 10000 t a b).run P w).andThen fun c w' => .ok (.bool c) w') →
      (∀ w, (binOp .neq t a b).run P w = ((Op.equalIn 10000 t a b).run P w).andThen fun c w' => .ok (.bool (!c)) w') → cmpPlain P t a b :=
    fun a b h1 h2 h3 h4 => ⟨fun op x y w => eqGuard_plain op t x y a b w ⟨h1, h2⟩, h3, h4⟩
  unfold aeql at h
  split at h
  · rw [rel_prim] at hx hy
    subst hx hy
    cases h
    exact ⟨eqi_bool 9999 (eqT_bool he) _ _ w, triv _ _ (by simp) (by simp) (fun w => by simp only [binOp]; simp [Op.equal, Op.maxDepth]) (fun w => by simp only [binOp]; simp [Op.equal, Op.maxDepth])⟩
  · rw [rel_prim] at hx hy
    subst hx hy
    cases h
    obtain ⟨_, hd⟩ := eqT_ptr he
    exact ⟨eqi_ptr1 9999 hd _ w, triv _ _ (by simp) (by simp) (fun w => by simp only [binOp]; simp [Op.equal, Op.maxDepth]) (fun w => by simp only [binOp]; simp [Op.equal, Op.maxDepth])⟩
  · rw [rel_prim] at hx hy
    subst hx hy
    cases h
    obtain ⟨_, hd⟩ := eqT_ptr he
    exact ⟨eqi_ptr2 9999 hd _ w, triv _ _ (by simp) (by simp) (fun w => by simp only [binOp]; simp [Op.equal, Op.maxDepth]) (fun w => by simp only [binOp]; simp [Op.equal, Op.maxDepth])⟩
  · rw [rel_prim] at hx
    obtain ⟨c, s, z, e, rfl⟩ := (by simpa only [rel] using hy)
    subst hx
    cases h
    obtain ⟨_, hd⟩ := eqT_ptr he
    exact ⟨eqi_ptr1 9999 hd _ w, triv _ _ (by simp) (by simp) (fun w => by simp only [binOp]; simp [Op.equal, Op.maxDepth]) (fun w => by simp only [binOp]; simp [Op.equal, Op.maxDepth])⟩
  · rw [rel_prim] at hy
    obtain ⟨c, s, z, e, rfl⟩ := (by simpa only [rel] using hx)
    subst hy
    cases h
    obtain ⟨_, hd⟩ := eqT_ptr he
    exact ⟨eqi_ptr2 9999 hd _ w, triv _ _ (by simp) (by simp) (fun w => by simp only [binOp]; simp [Op.equal, Op.maxDepth]) (fun w => by simp only [binOp]; simp [Op.equal, Op.maxDepth])⟩
  · rw [rel_prim] at hx hy
    subst hx hy
    cases h
    obtain ⟨_, hd⟩ := eqT_slice he
    exact ⟨eqi_slice1 9999 hd _ _ _ _ _ w, triv _ _ (by simp) (by simp) (fun w => by simp only [binOp]; simp [Op.equal, Op.maxDepth]) (fun w => by simp only [binOp]; simp [Op.equal, Op.maxDepth])⟩
  · rw [rel_prim] at hx
    obtain ⟨c, s, z, a, k, e, rfl, _⟩ := (by simpa only [rel] using hy)
    subst hx
    cases h
    obtain ⟨_, hd⟩ := eqT_slice he
    exact ⟨eqi_slice1 9999 hd _ _ _ _ _ w, triv _ _ (by simp) (by simp) (fun w => by simp only [binOp]; simp [Op.equal, Op.maxDepth]) (fun w => by simp only [binOp]; simp [Op.equal, Op.maxDepth])⟩
  · rw [rel_prim] at hy
    obtain ⟨c, s, z, a, k, e, rfl, _⟩ := (by simpa only [rel] using hx)
    subst hy
    cases h
    obtain ⟨_, hd⟩ := eqT_slice he
    exact ⟨eqi_slice2 9999 hd _ _ _ _ _ w, triv _ _ (by simp) (by simp) (fun w => by simp only [binOp]; simp [Op.equal, Op.maxDepth]) (fun w => by simp only [binOp]; simp [Op.equal, Op.maxDepth])⟩
  · rw [rel_prim] at hx hy
    subst hx hy
    cases h
    obtain ⟨_, _, hd⟩ := eqT_map he
    exact ⟨eqi_map1 9999 hd _ w, triv _ _ (by simp) (by simp) (fun w => by simp only [binOp]; simp [Op.equal, Op.maxDepth]) (fun w => by simp only [binOp]; simp [Op.equal, Op.maxDepth])⟩
  · rw [rel_prim] at hx
    obtain ⟨c, s, z, e, rfl⟩ := (by simpa only [rel] using hy)
    subst hx
    cases h
    obtain ⟨_, _, hd⟩ := eqT_map he
    exact ⟨eqi_map1 9999 hd _ w, triv _ _ (by simp) (by simp) (fun w => by simp only [binOp]; simp [Op.equal, Op.maxDepth]) (fun w => by simp only [binOp]; simp [Op.equal, Op.maxDepth])⟩
  · rw [rel_prim] at hy
    obtain ⟨c, s, z, e, rfl⟩ := (by simpa only [rel] using hx)
    subst hy
    cases h
    obtain ⟨_, _, hd⟩ := eqT_map he
    exact ⟨eqi_map2 9999 hd _ w, triv _ _ (by simp) (by simp) (fun w => by simp only [binOp]; simp [Op.equal, Op.maxDepth]) (fun w => by simp only [binOp]; simp [Op.equal, Op.maxDepth])⟩
  · rw [rel_prim] at hx hy
    subst hx hy
    cases h
    obtain ⟨_, _, _, hd⟩ := eqT_func he
    exact ⟨eqi_func0 9999 hd w, triv _ _ (by simp) (by simp) (fun w => by simp only [binOp]; simp [Op.equal, Op.maxDepth]) (fun w => by simp only [binOp]; simp [Op.equal, Op.maxDepth])⟩
  · rw [rel_prim] at hx
    obtain ⟨fs, cs, rfl, _⟩ := (by simpa only [rel] using hy)
    subst hx
    cases h
    obtain ⟨_, _, _, hd⟩ := eqT_func he
    exact ⟨eqi_func1 9999 hd _ _ _ w, triv _ _ (by simp) (by simp) (fun w => by simp only [binOp]; simp [Op.equal, Op.maxDepth]) (fun w => by simp only [binOp]; simp [Op.equal, Op.maxDepth])⟩
  · rw [rel_prim] at hy
    obtain ⟨fs, cs, rfl, _⟩ := (by simpa only [rel] using hx)
    subst hy
    cases h
    obtain ⟨_, _, _, hd⟩ := eqT_func he
    exact ⟨eqi_func2 9999 hd _ _ _ w, triv _ _ (by simp) (by simp) (fun w => by simp only [binOp]; simp [Op.equal, Op.maxDepth]) (fun w => by simp only [binOp]; simp [Op.equal, Op.maxDepth])⟩
  · rename_i f
    split at h
    · rename_i l l' hl hl'
      obtain ⟨cs, rfl, r1⟩ := rel_aggCells hx hl
      obtain ⟨cs', rfl, r2⟩ := rel_aggCells hy hl'
      have hlen := ceqs_length h
      obtain ⟨hf, hg, ha⟩ := eqT_agg he
      refine ⟨?_, triv _ _ (fun _ _ _ _ => hg) (by simp) (fun w => run_eql_struct w t _ _) (fun w => run_neq_struct w t _ _)⟩
      obtain ⟨v, v', p1, p2, q, hv⟩ := eq_flat 8 10000 t f hf (by omega) w γ 0 l l' cs cs' b r1 r2 (by
        rw [List.drop_zero, List.drop_zero, List.take_of_length_le (by omega), List.take_of_length_le (by omega)]
        exact h)
      obtain ⟨rfl, rfl⟩ := hv _ (flat_kind hf ha)
      have c1 := rels_length r1
      have c2 := rels_length r2
      have e1 : cs.extract 0 (0 + f.length) = cs := by
        apply Array.ext'
        simp only [Array.toList_extract, List.extract_eq_take_drop, List.drop_zero]
        exact List.take_of_length_le (by omega)
      have e2 : cs'.extract 0 (0 + f.length) = cs' := by
        apply Array.ext'
        simp only [Array.toList_extract, List.extract_eq_take_drop, List.drop_zero]
        exact List.take_of_length_le (by omega)
      rw [e1, e2] at q
      exact q
    · cases h
  · cases h

/-- The operations of two operands. -/
theorem bin_run {γ : Pl} {op : BinOp} {t : TypeId} {x y : AVal} {x' y' : Value} {v : AVal} (h : abin op (eqT P t) x y = some v)
    (hx : rel γ x x') (hy : rel γ y y') (X Y : Operand) (w : World) :
    ∃ v', (do eqGuard op t X Y x' y'; binOp op t x' y' : Sem Value).run P w = .ok v' w ∧ rel γ v v' := by
  unfold abin at h
  split at h
  · rename_i k a k' b
    rw [rel_prim] at hx hy
    subst hx hy
    have hg : (eqGuard op t X Y (.int k a) (.int k' b)).run P w = .ok () w := eqGuard_plain op t X Y _ _ w ⟨by simp, by simp⟩
    simp only [Sem.run_bind, hg, Result.andThen_ok]
    split at h
    · obtain ⟨v', h1, h2⟩ := shift_run (P := P) .shl k k' a b v w h
      exact ⟨v', by simpa [binOp] using h1, by rw [h2, rel_prim]⟩
    · obtain ⟨v', h1, h2⟩ := shift_run (P := P) .shr k k' a b v w h
      exact ⟨v', by simpa [binOp] using h1, by rw [h2, rel_prim]⟩
    · rename_i h1 h2
      split at h
      · rename_i hk
        subst hk
        obtain ⟨v', e1, e2⟩ := int_arith (P := P) op k a b v w h1 h2 h
        refine ⟨v', ?_, by rw [e2, rel_prim]⟩
        rw [← e1]
        cases op <;> first | exact absurd rfl h1 | exact absurd rfl h2 | simp [binOp]
      · cases h
  · rename_i a b
    rw [rel_prim] at hx hy
    subst hx hy
    have hg : (eqGuard op t X Y (.string a) (.string b)).run P w = .ok () w := eqGuard_plain op t X Y _ _ w ⟨by simp, by simp⟩
    simp only [Sem.run_bind, hg, Result.andThen_ok]
    obtain ⟨v', e1, e2⟩ := str_run (P := P) op a b v w h
    refine ⟨v', ?_, by rw [e2, rel_prim]⟩
    rw [← e1]
    cases op <;> simp [binOp]
  · split at h
    · rename_i e he
      cases hq : aeql e x y with
      | none => rw [hq] at h; cases h
      | some b =>
        rw [hq] at h
        simp at h
        subst h
        obtain ⟨q, g1, g2, g3⟩ := eql_run he hq hx hy w
        exact ⟨.bool b, by simp only [Sem.run_bind, g1, Result.andThen_ok, g2, q], by rw [abool, rel_prim]⟩
    · rename_i e he
      cases hq : aeql e x y with
      | none => rw [hq] at h; cases h
      | some b =>
        rw [hq] at h
        simp at h
        subst h
        obtain ⟨q, g1, g2, g3⟩ := eql_run he hq hx hy w
        exact ⟨.bool (!b), by simp only [Sem.run_bind, g1, Result.andThen_ok, g3, q], by rw [abool, rel_prim]⟩
    · cases h
end
end Go.AM
