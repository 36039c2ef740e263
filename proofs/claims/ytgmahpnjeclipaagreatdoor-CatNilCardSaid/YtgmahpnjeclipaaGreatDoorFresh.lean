/- Calls that leave what was there, and hand back plain values or one new row: what they are for callers. No condition but that the program draws all orders. -/
import Derived.Test.YtgmahpnjeclipaaGreatDoorSorted
namespace Go.AM

mutual
theorem rel_back {γ γ' : Pl} (h : Ext γ γ') : ∀ (v : AVal) (a b : Value), rel γ v a → rel γ' v b → rel γ v b
  | .prim v, a, b, _, q => by simpa [rel] using q
  | .ptr x o, a, b, r, q => by
    simp only [rel] at r q ⊢
    obtain ⟨c, s, z, e, _⟩ := r
    obtain ⟨c', s', z', e', q⟩ := q
    rw [h _ _ e] at e'
    cases e'
    exact ⟨c, s, z, e, q⟩
  | .slice x o n st cap, a, b, r, q => by
    simp only [rel] at r q ⊢
    obtain ⟨c, s, z, _, _, e, _⟩ := r
    obtain ⟨c', s', z', a', k', e', q⟩ := q
    rw [h _ _ e] at e'
    cases e'
    exact ⟨c, s, z, a', k', e, q⟩
  | .map x, a, b, r, q => by
    simp only [rel] at r q ⊢
    obtain ⟨c, s, z, e, _⟩ := r
    obtain ⟨c', s', z', e', q⟩ := q
    rw [h _ _ e] at e'
    cases e'
    exact ⟨c, s, z, e, q⟩
  | .func f first caps, a, b, r, q => by
    simp only [rel] at r q ⊢
    obtain ⟨fs, cs, _, r1, r2⟩ := r
    obtain ⟨fs', cs', e, q1, q2⟩ := q
    exact ⟨fs', cs', e, rels_back h _ _ _ r1 q1, rels_back h _ _ _ r2 q2⟩
  | .agg l, a, b, r, q => by
    simp only [rel] at r q ⊢
    obtain ⟨cs, _, r⟩ := r
    obtain ⟨cs', e, q⟩ := q
    exact ⟨cs', e, rels_back h _ _ _ r q⟩
  | .tuple l, a, b, r, q => by
    simp only [rel] at r q ⊢
    obtain ⟨cs, _, r⟩ := r
    obtain ⟨cs', e, q⟩ := q
    exact ⟨cs', e, rels_back h _ _ _ r q⟩
theorem rels_back {γ γ' : Pl} (h : Ext γ γ') : ∀ (l : List AVal) (a b : List Value), rels γ l a → rels γ' l b → rels γ l b
  | [], _, [], _, _ => by simp [rels]
  | [], _, _ :: _, _, q => by simp [rels] at q
  | _ :: _, [], _, r, _ => by simp [rels] at r
  | _ :: _, _ :: _, [], _, q => by simp [rels] at q
  | x :: l, y :: a, z :: b, r, q => by
    simp only [rels] at r q ⊢
    exact ⟨rel_back h _ _ _ r.1 q.1, rels_back h _ _ _ r.2 q.2⟩
end

theorem objRel_back {γ γ' : Pl} (h : Ext γ γ') {o : AObj} {s z s' z' : Nat} {a b : Obj} (r : objRel γ o s z a) (q : objRel γ' o s' z' b) : objRel γ o s' z' b := by
  cases o with
  | cells l =>
    obtain ⟨_, _, _, _, _, _, _, r, _⟩ := r
    obtain ⟨cs, e, lo, hi, q1, q2, q3, q4, q5⟩ := q
    exact ⟨cs, e, lo, hi, q1, q2, q3, rels_back h _ _ _ r q4, q5⟩
  | map es =>
    obtain ⟨_, _, _, _, r, _⟩ := r
    obtain ⟨ents, clock, q1, q2, q3, q4⟩ := q
    refine ⟨ents, clock, q1, q2, fun i k v hi => ?_, q4⟩
    obtain ⟨_, _, _, r3⟩ := r i k v hi
    obtain ⟨en, e1, e2, e3⟩ := q3 i k v hi
    exact ⟨en, e1, e2, rel_back h _ _ _ r3 e3⟩
  | iter str pos => exact q
  | miter m =>
    obtain ⟨_, c, s, z, _, _, e, _⟩ := r
    obtain ⟨q0, c', s', z', since, clock, e', q⟩ := q
    rw [h _ _ e] at e'
    cases e'
    exact ⟨q0, c, s, z, since, clock, e, q⟩

/-- Values that lead nowhere. -/
def AVal.shut : AVal → Bool
  | .prim _ => true
  | .agg l => l.all fun v => match v with | .prim _ => true | _ => false
  | .tuple l => l.all fun v => match v with | .prim _ => true | _ => false
  | _ => false

theorem rels_shut {γ γ' : Pl} : ∀ {l : List AVal} {l' : List Value}, l.all (fun v => match v with | .prim _ => true | _ => false) = true → rels γ l l' → rels γ' l l'
  | [], [], _, _ => by simp [rels]
  | x :: l, y :: l', h, r => by
    simp only [List.all_cons, Bool.and_eq_true] at h
    simp only [rels] at r ⊢
    refine ⟨?_, rels_shut h.2 r.2⟩
    cases x <;> simp at h
    simpa [rel] using r.1
  | [], _ :: _, _, r => by simp [rels] at r
  | _ :: _, [], _, r => by simp [rels] at r

theorem rel_shut {γ γ' : Pl} {v : AVal} {w : Value} (h : v.shut = true) (r : rel γ v w) : rel γ' v w := by
  cases v <;> simp [AVal.shut] at h
  · simpa [rel] using r
  · simp only [rel] at r ⊢
    obtain ⟨cs, e, r⟩ := r
    exact ⟨cs, e, rels_shut (by simpa using h) r⟩
  · simp only [rel] at r ⊢
    obtain ⟨cs, e, r⟩ := r
    exact ⟨cs, e, rels_shut (by simpa using h) r⟩

theorem rels_shut_all {γ γ' : Pl} : ∀ {l : List AVal} {l' : List Value}, l.all AVal.shut = true → rels γ l l' → rels γ' l l'
  | [], [], _, _ => by simp [rels]
  | x :: l, y :: l', h, r => by
    simp only [List.all_cons, Bool.and_eq_true] at h
    simp only [rels] at r ⊢
    exact ⟨rel_shut h.1 r.1, rels_shut_all h.2 r.2⟩
  | [], _ :: _, _, r => by simp [rels] at r
  | _ :: _, [], _, r => by simp [rels] at r

/-- Nothing is known. -/
def noPl : Pl := fun _ => none
theorem Rw.nothing (w : World) : Rw noPl AHeap.empty w :=
  ⟨fun b _ => rfl, fun b p e => (by cases e), fun b c s z e => (by cases e), fun b c s z o e => (by cases e), fun b b' c s z s' z' o o' e => (by cases e)⟩

/-- A function at plain arguments: what it answers on the empty heap it answers on every heap, and leaves it as it is. -/
def xClosed (args : List AVal) (v : AVal) : XFun := fun args' H =>
  match aeqList (aveq 5) args args' with
  | true => some (v, H)
  | false => none

theorem closed_ok {P : Program} {cl : Callee} (hcl : CalleeOk P cl) {f : FuncId} {args : List AVal} {v : AVal} {H1 : AHeap} (h : cl f args AHeap.empty = some (v, H1)) (ha : args.all AVal.shut = true) (hv : v.shut = true) :
    OnceOk P f (xClosed args v) := by
  intro args1 H v1 H' hx γ w args' hw hr
  unfold xClosed at hx
  split at hx <;> try (cases hx; done)
  rename_i he
  have := aeqList_sound (aveq_sound 5) _ _ he
  subst this
  simp only [Option.some.injEq, Prod.mk.injEq] at hx
  obtain ⟨rfl, rfl⟩ := hx
  refine Back.mono (fun v' w' hp => ?_) (hcl f args _ v H1 h noPl w args' (Rw.nothing w) (rels_shut_all ha hr))
  obtain ⟨γ1, r1, r2, r3⟩ := hp
  obtain ⟨q1, q2⟩ := hw.grown r3.size (fun k hk => r3.keep k hk fun b p e => by cases e) r3.os r3.tape r3.output
  exact ⟨γ, rel_shut hv r1, q1, q2⟩

/-- What a call left of new blocks is forgotten but for one row, which is the next block. -/
theorem Post.row {γ : Pl} {H H' : AHeap} {b n st : Nat} {cap : Option Nat} {l : List AVal} {w w' : World} {v' : Value} (hw : Rw γ H w) (h : Post γ H H' (.slice b 0 n st cap) w v' w') (hold : ∀ x, x < H.n → H'.get x = H.get x)
    (hb : H.n ≤ b) (hl : H'.get b = some (.cells l)) (hs : l.all AVal.shut = true) : Post γ H (H.push (.cells l)) (.slice H.n 0 n st cap) w v' w' := by
  obtain ⟨γ', r1, r2, r3⟩ := h
  have hr1 := r1
  simp only [rel] at r1
  obtain ⟨c, s, z, a, k, e, hve, q1, q2, q3, q4⟩ := r1
  have hnone : γ H.n = none := by
    cases e : γ H.n with
    | none => rfl
    | some p => have := hw.dom _ _ e; omega
  have hext := Ext.put (γ := γ) (c, s, z) hnone
  obtain ⟨ob, g1, g2⟩ := r2.live b c s z _ e hl
  have hnew : w.heap.size ≤ c := by
    rcases r3.img b _ e with h1 | ⟨_, h1⟩
    · have := hw.dom _ _ h1; omega
    · rcases h1 with ⟨b0, q, e0, eq, el⟩ | h1
      · obtain ⟨c0, s0, z0⟩ := q
        simp only at eq
        subst eq
        exfalso
        cases hg : H.get b0 with
        | none => exact el hg
        | some o0 =>
          have hb0 := hw.dom _ _ e0
          have := r2.inj b0 b _ _ _ _ _ _ _ (r3.ext _ _ e0) e (by rw [hold b0 hb0]; exact hg) hl
          omega
      · exact h1
  have hobj : ∀ x p o, γ x = some p → H.get x = some o → ∃ ob, w'.heap[p.1]? = some ob ∧ objRel γ o p.2.1 p.2.2 ob := fun x p o ex eo => by
    obtain ⟨c1, s1, z1⟩ := p
    obtain ⟨ob1, h1, h2⟩ := hw.live x c1 s1 z1 o ex eo
    obtain ⟨ob2, h3, h4⟩ := r2.live x c1 s1 z1 o (r3.ext _ _ ex) (by rw [hold x (hw.dom _ _ ex)]; exact eo)
    exact ⟨ob2, h3, objRel_back r3.ext h2 h4⟩
  have hlow : c < w'.heap.size := r2.low b c s z e
  have hrow : objRel (γ.put H.n (c, s, z)) (.cells l) s z ob := by
    obtain ⟨cs, e', lo, hi, p1, p2, p3, p4, p5⟩ := g2
    exact ⟨cs, e', lo, hi, p1, p2, p3, rels_shut_all hs p4, p5⟩
  refine ⟨γ.put H.n (c, s, z), ?_, ⟨fun x hx => ?_, fun x p ex => ?_, fun x c1 s1 z1 ex => ?_, fun x c1 s1 z1 o ex eo => ?_, fun x y c1 s1 z1 s2 z2 o1 o2 e1 e2 g1 g2 => ?_⟩,
    ⟨hext, fun x p ex => ?_, by simp, fun x ex hx => ?_, r3.os, r3.tape, r3.output, r3.size, fun d hd hn => r3.keep d hd hn, fun x p ex hx => ?_, fun d hd hnc hn => r3.keepM d hd hnc hn⟩⟩
  · simp only [rel]
    exact ⟨c, s, z, a, k, Pl.put_same _ _ _, hve, q1, q2, q3, q4⟩
  · simp only [AHeap.n_push] at hx
    rw [AHeap.get_push, if_neg (by omega)]
    exact hw.fresh x (by omega)
  · by_cases hx : x = H.n
    · subst hx; simp
    · rw [Pl.put_other _ _ hx] at ex
      have := hw.dom x p ex
      simp; omega
  · by_cases hx : x = H.n
    · subst hx; rw [Pl.put_same] at ex; cases ex; exact hlow
    · rw [Pl.put_other _ _ hx] at ex
      exact r2.low x _ _ _ (r3.ext _ _ ex)
  · rw [AHeap.get_push] at eo
    by_cases hx : x = H.n
    · subst hx
      rw [Pl.put_same] at ex
      cases ex
      rw [if_pos rfl] at eo
      cases eo
      exact ⟨ob, g1, hrow⟩
    · rw [if_neg hx] at eo
      rw [Pl.put_other _ _ hx] at ex
      obtain ⟨ob', h1, h2⟩ := hobj x _ o ex eo
      exact ⟨ob', h1, objRel_mono hext h2⟩
  · rw [AHeap.get_push] at g1 g2
    by_cases hx : x = H.n
    · by_cases hy : y = H.n
      · rw [hx, hy]
      · subst hx
        rw [Pl.put_same] at e1
        rw [Pl.put_other _ _ hy] at e2
        cases e1
        have := hw.low y _ _ _ e2
        omega
    · by_cases hy : y = H.n
      · subst hy
        rw [Pl.put_same] at e2
        rw [Pl.put_other _ _ hx] at e1
        cases e2
        have := hw.low x _ _ _ e1
        omega
      · rw [if_neg hx] at g1
        rw [if_neg hy] at g2
        rw [Pl.put_other _ _ hx] at e1
        rw [Pl.put_other _ _ hy] at e2
        exact hw.inj x y _ _ _ _ _ _ _ e1 e2 g1 g2
  · by_cases hx : x = H.n
    · subst hx
      rw [Pl.put_same] at ex
      cases ex
      exact .inr ⟨Nat.le_refl _, .inr hnew⟩
    · rw [Pl.put_other _ _ hx] at ex
      exact .inl ex
  · rw [AHeap.get_push, if_neg (by omega)]
  · have := hw.dom x p ex
    rw [AHeap.get_push, if_neg (by omega)]
    exact hx

/-- Nothing of the new blocks is kept. -/
theorem Post.same {γ : Pl} {H H' : AHeap} {v : AVal} {w w' : World} {v' : Value} (hw : Rw γ H w) (h : Post γ H H' v w v' w') (hold : ∀ x, x < H.n → H'.get x = H.get x) (hs : v.shut = true) : Post γ H H v w v' w' := by
  obtain ⟨γ', r1, r2, r3⟩ := h
  refine ⟨γ, rel_shut hs r1, ⟨hw.fresh, hw.dom, fun b c s z e => ?_, fun b c s z o e eo => ?_, hw.inj⟩, ⟨Ext.refl γ, fun _ _ h => .inl h, Nat.le_refl _, fun _ _ _ => rfl, r3.os, r3.tape, r3.output, r3.size, r3.keep, fun _ _ _ h => h, r3.keepM⟩⟩
  · exact r2.low b _ _ _ (r3.ext _ _ e)
  · obtain ⟨ob1, h1, h2⟩ := hw.live b c s z o e eo
    obtain ⟨ob2, h3, h4⟩ := r2.live b c s z o (r3.ext _ _ e) (by rw [hold b (hw.dom _ _ e)]; exact eo)
    exact ⟨ob2, h3, objRel_back r3.ext h2 h4⟩
end Go.AM
