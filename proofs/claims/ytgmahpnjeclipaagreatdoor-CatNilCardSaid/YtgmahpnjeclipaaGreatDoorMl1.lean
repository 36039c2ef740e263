/- Loops over maps: in whatever order entries come, what holds ahead of each round holds behind it. No condition but that the program draws all orders. -/
import Derived.Test.YtgmahpnjeclipaaGreatDoorLo3
import Derived.Laws.IdiomRangeMap
namespace Go.AM
section
variable {P : Program}

/-- The step of an iterator over a map: it is told that none is left, or one that is left. -/
theorem next_any {w : World} {r cm since c0 : Nat} {seen : Array Nat} {es : Array MapEntry} {clock : Nat} (hr : w.heap[r]? = some (.mapIter (some cm) since seen c0)) (hc : w.heap[cm]? = some (.map es clock))
    (hold : ∀ x ∈ es.toList, x.born < since) (hsc : since ≤ c0) (ty : TypeId) :
    ((leftOf es seen).size = 0 ∧ (Instr.next (.pointer (some ⟨r, 0, none⟩)) false ty).run P w = .ok (.tuple #[.bool false]) w) ∨
    ∃ e ∈ (leftOf es seen).toList, ∃ w1, (w1 = w ∨ w1 = w.drew) ∧
      (Instr.next (.pointer (some ⟨r, 0, none⟩)) false ty).run P w = .ok (.tuple #[.bool true, e.key, e.val]) (w1.setObj r (.mapIter (some cm) since (seen.push e.born) clock)) := by
  have g1 := getObj_ok (P := P) hr (by simp)
  have g2 := getObj_ok (P := P) hc (by simp)
  simp only [Instr.next, Sem.run_bind, g1, g2, Result.andThen_ok, next_test_false seen es since c0 hold hsc, Bool.false_eq_true, if_false]
  unfold leftOf
  have hmem : ∀ x ∈ (Array.filter (fun e => !seen.contains e.born) es).toList, x.born < since := fun x hx => hold x (by simp at hx ⊢; exact hx.1)
  generalize Array.filter (fun e => !seen.contains e.born) es = L at hmem ⊢
  have e1 : L.filter (fun x => decide (x.born < since)) = L := Array.filter_eq_self.2 (fun x hx => by simpa using hmem x (by simpa using hx))
  have e2 : L.filter (fun x => decide (x.born ≥ since)) = #[] := by
    rw [Array.filter_eq_empty_iff]
    intro x hx
    have := hmem x (by simpa using hx)
    simp
    omega
  simp only [e1, e2, Array.append_empty]
  by_cases h0 : L.size = 0
  · left
    have : L = #[] := Array.eq_empty_of_size_eq_zero h0
    subst this
    refine ⟨rfl, ?_⟩
    simp [choose, Sem.run, Question.forced]
  · right
    have hne : L.isEmpty = false := by simp [Array.isEmpty, h0]
    simp only [hne, Bool.false_eq_true, if_false, Array.empty_append, Array.size_map]
    have hch : ∃ (j : Nat) (w1 : World), j < L.size ∧ (w1 = w ∨ w1 = w.drew) ∧ (choose (Question.mapNext L.size)).run P w = .ok j w1 := by
      by_cases hf : L.size ≤ 1
      · exact ⟨0, w, by omega, .inl rfl, by simp [choose, Sem.run, Question.forced, hf]⟩
      · exact ⟨_, w.drew, Nat.mod_lt _ (by omega), .inr rfl, by
          simp only [choose, Sem.run, Question.forced, decide_eq_true_eq, hf, if_false, Question.cut]
          rfl⟩
    obtain ⟨j, w1, hj, hal, hrun⟩ := hch
    refine ⟨L[j], by simp, w1, hal, ?_⟩
    have hr1 : w1.heap[r]? = some (.mapIter (some cm) since seen c0) := by
      rcases hal with rfl | rfl
      · exact hr
      · exact hr
    have hset := fun o' => setObj_ok (P := P) (o' := o') hr1 (by simp)
    simp only [hrun, Array.getElem?_map, Array.getElem?_eq_getElem hj, Option.map_some, Sem.run_bind, hset, Result.andThen_ok]
    rfl

/-- The entry that the step told. -/
theorem entry_any {w : World} {r cm since : Nat} {seen : Array Nat} {es : Array MapEntry} {clock : Nat} {e : MapEntry} (hr : w.heap[r]? = some (.mapIter (some cm) since (seen.push e.born) clock))
    (hc : w.heap[cm]? = some (.map es clock)) (he : e ∈ es.toList) (hn : (es.toList.map (·.born)).Nodup) :
    (Instr.entry (.pointer (some ⟨r, 0, none⟩))).run P w = .ok (.tuple #[e.key, e.val]) w := by
  have g1 := getObj_ok (P := P) hr (by simp)
  have g2 := getObj_ok (P := P) hc (by simp)
  have hf : es.find? (·.born == e.born) = some e := by rw [← Array.find?_toList]; exact find_born e es.toList hn he
  simp only [Instr.entry, Sem.run_bind, g1, g2, Result.andThen_ok, Array.back?_push, bne_self_eq_false, Bool.false_eq_true, if_false, hf]
  rfl

/-- An operation that answers a value. -/
theorem wpList_value {ops : Array Oper} {Q : Exit → Act → World → Prop} {o : Oper} {rest : List Oper} {a : Act} {w w' : World} {v' : Value} (hg : o.guard = none)
    (h : (execOp a.eval o).run P w = .ok (.value v') w') (k : wpList P ops Q rest (a.put o.dst v') w') : wpList P ops Q (o :: rest) a w := by
  unfold wpList
  have hw : Region.wanted o (yielded ops a.tmps) = true := by simp [Region.wanted, hg]
  rw [if_pos hw]
  exact .inl (Back.wp (R := fun v w1 => v = v' ∧ w1 = w') (by rw [h]; exact ⟨rfl, rfl⟩) fun v w1 e => by obtain ⟨rfl, rfl⟩ := e; exact k)

/-- A map that the abstract heap forgot is told of again. -/
theorem Rw.again {γ : Pl} {H : AHeap} {w : World} (h : Rw γ H w) {m c s z : Nat} {o : AObj} {ob : Obj} (hm : γ m = some (c, s, z)) (hob : w.heap[c]? = some ob) (hr : objRel γ o s z ob)
    (hd : ∀ b p, γ b = some p → p.1 = c → H.get b = none) : Rw γ (H.set m o) w := by
  have hlt := h.dom m _ hm
  refine ⟨fun x hx => ?_, fun x p e => by simpa using h.dom x p e, h.low, fun x c' s' z' o' e eo => ?_, fun x y c' s1 z1 s2 z2 o1 o2 e1 e2 g1 g2 => ?_⟩
  · rw [AHeap.get_set]
    simp only [AHeap.n_set] at hx
    rw [if_neg (by omega)]
    exact h.fresh x hx
  · rw [AHeap.get_set] at eo
    by_cases hx : x = m
    · subst hx
      rw [hm] at e
      cases e
      rw [if_pos rfl] at eo
      cases eo
      exact ⟨ob, hob, hr⟩
    · rw [if_neg hx] at eo
      exact h.live x c' s' z' o' e eo
  · rw [AHeap.get_set] at g1 g2
    by_cases hx : x = m
    · by_cases hy : y = m
      · rw [hx, hy]
      · subst hx
        rw [hm] at e1
        cases e1
        rw [if_neg hy, hd y _ e2 rfl] at g2
        cases g2
    · by_cases hy : y = m
      · subst hy
        rw [hm] at e2
        cases e2
        rw [if_neg hx, hd x _ e1 rfl] at g1
        cases g1
      · rw [if_neg hx] at g1
        rw [if_neg hy] at g2
        exact h.inj x y _ _ _ _ _ _ _ e1 e2 g1 g2

theorem Stp.again {γ γ' : Pl} {H H' : AHeap} {w w' : World} {m : Nat} {p : Nat × Nat × Nat} {o o' : AObj} (hm : γ m = some p) (ho : H.get m = some o) (h : Stp γ γ' (H.kill m) H' w w') :
    Stp γ γ' H (H'.set m o') w w' := by
  have hk : ∀ b, (H.kill m).get b = if b = m then none else H.get b := fun b => AHeap.get_kill H m b
  refine ⟨h.ext, fun b q e => ?_, by simpa using h.hn, fun b e hb => ?_, h.os, h.tape, h.output, h.size, h.keep, fun b q e hb => ?_, fun c hc hnc hn => h.keepM c hc hnc fun b q e hq => ?_⟩
  · rcases h.img b q e with e1 | ⟨e1, e2⟩
    · exact .inl e1
    · refine .inr ⟨by simpa using e1, ?_⟩
      rcases e2 with ⟨b0, q0, a1, a2, a3⟩ | e2
      · refine .inl ⟨b0, q0, a1, a2, fun hd => a3 ?_⟩
        rw [hk, hd]
        split <;> rfl
      · exact .inr e2
  · have hbm : b ≠ m := fun h => by rw [h, hm] at e; cases e
    rw [AHeap.get_set, if_neg hbm, h.out b e (by simpa using hb), hk, if_neg hbm]
  · have hbm : b ≠ m := fun h => by rw [h, ho] at hb; cases hb
    rw [AHeap.get_set, if_neg hbm]
    exact h.dead b q e (by rw [hk, if_neg hbm, hb])
  · rw [hk, hn b q e hq]
    split <;> rfl

/-- What a loop over a map is made of. -/
structure MapLoop (P : Program) (N : Nat) (body : Code) where
  it : Nat
  t1 : Nat
  t2 : Nat
  t3 : Nat
  b0 : Nat
  b1 : Nat
  id5 : Nat
  id6 : Nat
  next : Oper
  ext : Oper
  ent : Oper
  ops5 : Array Oper
  ops6 : Array Oper
  rest : List Oper
  B : Code
  s6 : List AStep
  ac : ACode
  shape : body = .seq (.region id5 ops5 false) (.seq (.cond (.tmp t2) .skip (.exit b0)) (.block b1 (.seq (.region id6 ops6 false) B)))
  h5 : ops5.toList = [next, ext]
  n1 : next.op = .next (.tmp it) false
  n2 : next.dst = some t1
  n3 : next.guard = none
  x1 : ext.op = .extract (.tmp t1) 0
  x2 : ext.dst = some t2
  x3 : ext.guard = none
  h6 : ops6.toList = ent :: rest
  e1 : ent.op = .entry (.tmp it)
  e2 : ent.dst = some t3
  e3 : ent.guard = none
  hs : compSteps P ops6 rest = some s6
  hc : comp P B = some ac
  hd : rest.all (fun o => match o.dst with | some d => Nat.blt d N | none => true) = true
  hb : dstsBelow N B = true
  lt : t1 < N ∧ t2 < N ∧ t3 < N
  ne : it ≠ t1 ∧ it ≠ t2 ∧ it ≠ t3 ∧ t1 ≠ t2

/-- The frame behind the step to an entry. -/
def MapLoop.at {N : Nat} {body : Code} (L : MapLoop P N body) (T : Fr) (k : Value) (v : AVal) : Fr :=
  aput (aput (aput T (some L.t1) (.tuple [.prim (.bool true), .prim k, v])) (some L.t2) (.prim (.bool true))) (some L.t3) (.tuple [.prim k, v])

/-- The frame behind the last step. -/
def MapLoop.off {N : Nat} {body : Code} (L : MapLoop P N body) (T : Fr) : Fr :=
  aput (aput T (some L.t1) (.tuple [.prim (.bool false)])) (some L.t2) (.prim (.bool false))

theorem born_inj {ents : Array MapEntry} (h : ∀ (i j : Nat) (en em : MapEntry), i < j → ents[i]? = some en → ents[j]? = some em → en.born < em.born) {i j : Nat} {en em : MapEntry}
    (hi : ents[i]? = some en) (hj : ents[j]? = some em) (e : en.born = em.born) : i = j := by
  rcases Nat.lt_trichotomy i j with hlt | rfl | hlt
  · have := h i j en em hlt hi hj; omega
  · rfl
  · have := h j i em en hlt hj hi; omega

theorem born_nodup {ents : Array MapEntry} (h : ∀ (i j : Nat) (en em : MapEntry), i < j → ents[i]? = some en → ents[j]? = some em → en.born < em.born) : (ents.toList.map (·.born)).Nodup := by
  rw [List.Nodup, List.pairwise_iff_getElem]
  intro i j hi hj hij e
  simp only [List.length_map, Array.length_toList] at hi hj
  simp only [List.getElem_map, Array.getElem_toList] at e
  have := h i j ents[i] ents[j] hij (by simp [hi]) (by simp [hj])
  omega
end
end Go.AM
