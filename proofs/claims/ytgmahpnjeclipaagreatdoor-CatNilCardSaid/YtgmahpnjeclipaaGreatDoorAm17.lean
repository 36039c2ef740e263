/- Regions that draw their order: the plan, and what holds on the way. No condition. -/
import Derived.Test.YtgmahpnjeclipaaGreatDoorAm16
namespace Go.AM

abbrev Item := Nat × AStep × Nat

theorem befOne_spec {b : List Nat} {o : Oper} {j : Nat} (h : (befOne b o).testBit j = true) :
    ∃ e ∈ o.after, Region.binds .any e = true ∧ (j = e.on ∨ (b.getD e.on 0).testBit j = true) := by
  unfold befOne at h
  have key : ∀ (l : List Edge) (s : Nat), (l.foldl (fun s e => if Region.binds .any e then s ||| (2 ^ e.on ||| b.getD e.on 0) else s) s).testBit j = true →
      s.testBit j = true ∨ ∃ e ∈ l, Region.binds .any e = true ∧ (j = e.on ∨ (b.getD e.on 0).testBit j = true) := by
    intro l
    induction l with
    | nil => intro s h; exact .inl h
    | cons e l ih =>
      intro s h
      simp only [List.foldl_cons] at h
      rcases ih _ h with h1 | ⟨x, hx, h1⟩
      · split at h1
        · rename_i hb
          simp only [Nat.testBit_or, Bool.or_eq_true, Nat.testBit_two_pow] at h1
          rcases h1 with h1 | h1 | h1
          · exact .inl h1
          · exact .inr ⟨e, by simp, hb, .inl (by simpa using (of_decide_eq_true h1).symm)⟩
          · exact .inr ⟨e, by simp, hb, .inr h1⟩
        · exact .inl h1
      · exact .inr ⟨x, by simp [hx], h1⟩
  rcases key _ _ h with h1 | ⟨e, he, h1⟩
  · simp at h1
  · exact ⟨e, by simpa using he, h1⟩

theorem befOne_has {b : List Nat} {o : Oper} {e : Edge} (he : e ∈ o.after) (hb : Region.binds .any e = true) : (befOne b o).testBit e.on = true := by
  unfold befOne
  have key : ∀ (l : List Edge) (s : Nat), (s.testBit e.on = true ∨ e ∈ l) →
      (l.foldl (fun s e => if Region.binds .any e then s ||| (2 ^ e.on ||| b.getD e.on 0) else s) s).testBit e.on = true := by
    intro l
    induction l with
    | nil => intro s h; exact h.resolve_right (by simp)
    | cons x l ih =>
      intro s h
      simp only [List.foldl_cons]
      refine ih _ ?_
      rcases h with h | h
      · refine .inl ?_
        split
        · simp [Nat.testBit_or, h]
        · exact h
      · cases h with
        | head => refine .inl ?_; rw [if_pos hb]; simp [Nat.testBit_or]
        | tail _ h => exact .inr h
  exact key _ _ (.inr (by simpa using he))

theorem befsOk_spec {b : List Nat} : ∀ {l : List Oper} {r : List Nat}, befsOk b l r = true → l.length = r.length ∧
    ∀ (i : Nat) (o : Oper) (m : Nat), l[i]? = some o → r[i]? = some m → m = befOne b o ∧ ∀ e ∈ o.after, Region.binds .any e = true → e.on < b.length
  | [], [], _ => ⟨rfl, fun i o m h _ => by simp at h⟩
  | o :: l, m :: r, h => by
    simp only [befsOk, Bool.and_eq_true] at h
    obtain ⟨h1, h2, h3⟩ := h
    obtain ⟨k1, k2⟩ := befsOk_spec h3
    refine ⟨by simp [k1], fun i o' m' ho hm => ?_⟩
    cases i with
    | zero =>
      simp at ho hm
      subst ho
      subst hm
      refine ⟨Nat.eq_of_beq_eq_true h1, fun e he hb => ?_⟩
      have := List.all_eq_true.1 h2 e (by simpa using he)
      simpa [hb] using this
    | succ i => exact k2 i o' m' (by simpa using ho) (by simpa using hm)
  | [], _ :: _, h => by simp [befsOk] at h
  | _ :: _, [], h => by simp [befsOk] at h

theorem itemsOf_spec {steps : List AStep} {b : List Nat} : ∀ {plan : List Nat} {items : List Item}, itemsOf steps b plan = some items →
    items.map (·.1) = plan ∧ ∀ x ∈ items, steps[x.1]? = some x.2.1 ∧ b[x.1]? = some x.2.2
  | [], items, h => by simp [itemsOf] at h; subst h; simp
  | i :: l, items, h => by
    simp only [itemsOf] at h
    split at h <;> try (cases h; done)
    rename_i s m r hs hm hr
    cases h
    obtain ⟨k1, k2⟩ := itemsOf_spec hr
    refine ⟨by simp [k1], fun x hx => ?_⟩
    cases hx with
    | head => exact ⟨hs, hm⟩
    | tail _ hx => exact k2 x hx

theorem planOk_self {l : List Item} (h : planOk l = true) : ∀ x ∈ l, selfOk x = true := by
  induction l with
  | nil => intro x hx; simp at hx
  | cons y l ih =>
    simp only [planOk, Bool.and_eq_true] at h
    intro x hx
    cases hx with
    | head => exact h.1
    | tail _ hx => exact ih h.2.2 x hx

theorem planOk_pair {l1 l2 : List Item} {x : Item} (h : planOk (l1 ++ x :: l2) = true) : ∀ y ∈ l2, pairOk x y = true := by
  induction l1 with
  | nil =>
    simp only [List.nil_append, planOk, Bool.and_eq_true] at h
    exact fun y hy => List.all_eq_true.1 h.2.1 y hy
  | cons z l ih =>
    simp only [List.cons_append, planOk, Bool.and_eq_true] at h
    exact ih h.2.2

theorem planOk_any {l : List Item} (h : planOk l = true) : ∀ x ∈ l, ∀ y ∈ l, x = y ∨ pairOk x y = true ∨ pairOk y x = true := by
  induction l with
  | nil => intro x hx; simp at hx
  | cons z l ih =>
    simp only [planOk, Bool.and_eq_true] at h
    intro x hx y hy
    cases hx with
    | head =>
      cases hy with
      | head => exact .inl rfl
      | tail _ hy => exact .inr (.inl (List.all_eq_true.1 h.2.1 y hy))
    | tail _ hx =>
      cases hy with
      | head => exact .inr (.inr (List.all_eq_true.1 h.2.1 x hx))
      | tail _ hy => exact ih h.2.2 x hx y hy

/-- What an ordered pair has. -/
structure PairS (x y : Item) : Prop where
  ne : x.1 ≠ y.1
  nb : x.2.2.testBit y.1 = false
  eff : isEff x.2.1 = true → y.2.2.testBit x.1 = true
  dst : ∀ d, x.2.1.dst = some d → y.2.1.dst ≠ some d
  wr : ∀ d, x.2.1.dst = some d → d ∈ slotsOf y.2.1 → y.2.2.testBit x.1 = true
  rw : ∀ d, y.2.1.dst = some d → d ∈ slotsOf x.2.1 → y.2.2.testBit x.1 = true ∧ isRead x.2.1 = false

theorem pairOk_spec {x y : Item} (h : pairOk x y = true) : PairS x y := by
  simp only [pairOk, Bool.and_eq_true, bne_iff_ne, Bool.not_eq_true', Bool.or_eq_true] at h
  obtain ⟨h1, h2, h3, h4, h5⟩ := h
  refine ⟨h1, h2, fun he => h3.resolve_left (by simp [he]), fun d hd => ?_, fun d hd hm => ?_, fun d hd hm => ?_⟩
  · rw [hd] at h4
    simp only [Bool.and_eq_true, bne_iff_ne] at h4
    exact h4.1
  · rw [hd] at h4
    simp only [Bool.and_eq_true, Bool.or_eq_true, Bool.not_eq_true'] at h4
    exact h4.2.resolve_left (by simp [hm])
  · rw [hd] at h5
    simp only [Bool.and_eq_true, Bool.or_eq_true, Bool.not_eq_true'] at h5
    exact h5.resolve_left (by simp [hm])

theorem selfOk_spec {x : Item} (h : selfOk x = true) : x.2.2.testBit x.1 = false ∧ ∀ d, x.2.1.dst = some d → d ∉ slotsOf x.2.1 := by
  simp only [selfOk, Bool.and_eq_true, Bool.not_eq_true'] at h
  refine ⟨h.1, fun d hd => ?_⟩
  have h2 := h.2
  rw [hd] at h2
  simpa using h2

theorem compSteps_spec {P : Program} {ops : Array Oper} : ∀ {l : List Oper} {r : List AStep}, compSteps P ops l = some r → l.length = r.length ∧
    ∀ (i : Nat) (o : Oper) (s : AStep), l[i]? = some o → r[i]? = some s → compStep P ops o = some s
  | [], r, h => by simp [compSteps] at h; subst h; simp
  | o :: l, r, h => by
    simp only [compSteps] at h
    split at h <;> try (cases h; done)
    rename_i s r' hs hr
    cases h
    obtain ⟨k1, k2⟩ := compSteps_spec hr
    refine ⟨by simp [k1], fun i o' s' ho hs' => ?_⟩
    cases i with
    | zero => simp at ho hs'; subst ho; subst hs'; exact hs
    | succ i => exact k2 i o' s' (by simpa using ho) (by simpa using hs')

/-- A plan of a region. -/
structure Plan (P : Program) (ops : Array Oper) (items : List Item) : Prop where
  oper : ∀ x ∈ items, ∃ o, ops[x.1]? = some o ∧ compStep P ops o = some x.2.1 ∧ (∀ e ∈ o.after, Region.binds .any e = true → x.2.2.testBit e.on = true ∧ e.on < ops.size) ∧
    (∀ j, x.2.2.testBit j = true → ∃ e ∈ o.after, Region.binds .any e = true ∧ (j = e.on ∨ ∃ y ∈ items, y.1 = e.on ∧ y.2.2.testBit j = true))
  all : ∀ i, i < ops.size → ∃ x ∈ items, x.1 = i
  ok : planOk items = true
  len : items.length = ops.size

theorem compDrawn_plan {P : Program} {ops : Array Oper} {l : List (AStep × List AStep)} (h : compDrawn P ops = some l) : ∃ items, Plan P ops items ∧ l = planSteps [] items := by
  unfold compDrawn at h
  split at h <;> try (cases h; done)
  rename_i steps hs
  generalize befs ops.toList [] = b at h
  generalize planOf steps b = plan at h
  unfold compPlan at h
  split at h <;> try (cases h; done)
  rename_i items hi
  split at h <;> simp at h
  rename_i hc
  simp only [Bool.and_eq_true] at hc
  obtain ⟨c1, c2, c3, c4⟩ := hc
  obtain ⟨i1, i2⟩ := itemsOf_spec hi
  obtain ⟨b1, b2⟩ := befsOk_spec c1
  obtain ⟨s1, s2⟩ := compSteps_spec hs
  have hall : ∀ i, i < ops.size → ∃ x ∈ items, x.1 = i := fun i hl => by
    have := List.all_eq_true.1 c4 i (by simpa using hl)
    rw [← i1] at this
    simpa using this
  refine ⟨items, ⟨fun x hx => ?_, hall, c2, ?_⟩, h.symm⟩
  · obtain ⟨k1, k2⟩ := i2 x hx
    have hlt : x.1 < ops.toList.length := by
      rw [s1]
      exact (List.getElem?_eq_some_iff.1 k1).1
    have ho : ops.toList[x.1]? = some (ops.toList[x.1]) := List.getElem?_eq_getElem hlt
    obtain ⟨m1, m2⟩ := b2 x.1 _ _ ho k2
    have hel : ∀ e ∈ (ops.toList[x.1]).after, Region.binds .any e = true → e.on < ops.size := fun e he hb => by
      have := m2 e he hb
      rw [← b1] at this
      simpa using this
    refine ⟨ops.toList[x.1], by rw [← Array.getElem?_toList]; exact ho, s2 _ _ _ ho k1, fun e he hb => ⟨by rw [m1]; exact befOne_has he hb, hel e he hb⟩, fun j hj => ?_⟩
    rw [m1] at hj
    obtain ⟨e, he, hb, hor⟩ := befOne_spec hj
    obtain ⟨y, hy, hy1⟩ := hall e.on (hel e he hb)
    refine ⟨e, he, hb, hor.imp id fun hor => ⟨y, hy, hy1, ?_⟩⟩
    have hyb := (i2 y hy).2
    rw [hy1] at hyb
    rw [List.getD_eq_getElem?_getD, hyb] at hor
    exact hor
  · have := congrArg List.length i1
    simp only [List.length_map] at this
    rw [this, Nat.eq_of_beq_eq_true c3]
    simp
end Go.AM
