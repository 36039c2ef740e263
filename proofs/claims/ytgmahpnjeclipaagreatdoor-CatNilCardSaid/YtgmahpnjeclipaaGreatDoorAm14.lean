/- One operation: what the abstract machine does the model does. No condition. -/
import Derived.Test.YtgmahpnjeclipaaGreatDoorAm13
namespace Go.AM
section
variable {P : Program}

theorem getObj_ok {w : World} {c : Nat} {o : Obj} (h : w.heap[c]? = some o) (hn : ∀ a b d, o ≠ .cells a b d) : (getObj c).run P w = .ok o w := by
  cases o <;> first | exact absurd rfl (hn _ _ _) | simp [getObj, Sem.run, h]

theorem setObj_ok {w : World} {c : Nat} {o o' : Obj} (h : w.heap[c]? = some o) (hn : ∀ a b d, o ≠ .cells a b d) : (setObj c o').run P w = .ok () (w.setObj c o') := by
  cases o <;> first | exact absurd rfl (hn _ _ _) | simp [Go.setObj, Sem.run, h, World.setObj]

theorem anext_run {γ : Pl} {H : AHeap} {w : World} (hw : Rw γ H w) {x : AVal} {x' : Value} (hx : rel γ x x') {str : Bool} {v : AVal} {H' : AHeap} (h : anext x str H = some (v, H')) (ty : TypeId) :
    ∃ v' w', (Instr.next x' str ty).run P w = .ok v' w' ∧ rel γ v v' ∧ Rw γ H' w' ∧ Stp γ γ H H' w w' := by
  unfold anext at h
  split at h
  · rename_i r
    split at h <;> try (cases h; done)
    rename_i s pos hg
    obtain ⟨c, sh, z, e, rfl⟩ := (by simpa only [rel] using hx)
    obtain ⟨ob, h1, rfl, h2⟩ := hw.live _ _ _ _ _ e hg
    subst h2
    have hgo := getObj_ok (P := P) h1 (by simp)
    split at h
    · rename_i hlt
      cases hd : Utf8.decode s pos with
      | mk cc width =>
        rw [hd] at h
        simp at h
        obtain ⟨rfl, rfl⟩ := h
        obtain ⟨r1, r2⟩ := hw.set e hg (show objRel γ (.iter s (pos + width)) 0 z (.stringIter s (pos + width)) from ⟨rfl, rfl⟩)
        refine ⟨.tuple #[.bool true, .int .i64 pos, .int .i32 cc], _, ?_, ?_, r1, r2⟩
        · simp [Instr.next, hgo, hlt, hd, setObj_ok (P := P) h1, goInt]
        · simp only [rel]
          exact ⟨_, rfl, by simp [abool, rel_prim], by simp [int, rel_prim], rfl, trivial⟩
    · rename_i hlt
      simp at h
      obtain ⟨rfl, rfl⟩ := h
      refine ⟨.tuple #[.bool false], w, by simp [Instr.next, hgo, hlt], ?_, hw, Stp.refl _ _ _⟩
      simp only [rel]
      exact ⟨_, rfl, by simp [abool, rel_prim], trivial⟩
  · rename_i r
    split at h <;> try (cases h; done)
    rename_i m hg
    split at h <;> simp at h
    rename_i hg2
    obtain ⟨rfl, rfl⟩ := h
    obtain ⟨c, sh, z, e, rfl⟩ := (by simpa only [rel] using hx)
    obtain ⟨ob, h1, rfl, c2, s2, z2, since, clock, e2, h2⟩ := hw.live _ _ _ _ _ e hg
    subst h2
    have hgo := getObj_ok (P := P) h1 (by simp)
    obtain ⟨ents, clock2, h3, h4, _⟩ := map_live hw e2 hg2
    have hgo2 := getObj_ok (P := P) h3 (by simp)
    have he : ents = #[] := by
      have := h4.1
      simp at this
      exact Array.eq_empty_of_size_eq_zero this.symm
    subst he
    have hf : (Question.mapNext 1).forced = true := rfl
    refine ⟨.tuple #[.bool false], w, ?_, ?_, hw, Stp.refl _ _ _⟩
    · simp [Instr.next, hgo, hgo2, hf]
    · simp only [rel]
      exact ⟨_, rfl, by simp [abool, rel_prim], trivial⟩
  · cases h

theorem arangeMap_run {γ : Pl} {H : AHeap} {w : World} (hw : Rw γ H w) {t kt et : TypeId} (hd : P.underlying t = some (.map kt et)) {x : AVal} {x' : Value} (hx : rel γ x x') {v : AVal} {H' : AHeap}
    (h : arangeMap x H = some (v, H')) : ∃ v' w' γ', (Instr.range t x').run P w = .ok v' w' ∧ rel γ' v v' ∧ Rw γ' H' w' ∧ Stp γ γ' H H' w w' := by
  unfold arangeMap at h
  split at h <;> try (cases h; done)
  rename_i m
  split at h <;> simp at h
  rename_i es hg
  obtain ⟨rfl, rfl⟩ := h
  obtain ⟨c, sh, z, e, rfl⟩ := (by simpa only [rel] using hx)
  obtain ⟨ents, clock, h3, h4, _⟩ := map_live hw e hg
  have hgo := getObj_ok (P := P) h3 (by simp)
  have hnone : γ H.n = none := by
    cases eh : γ H.n with
    | none => rfl
    | some p => have := hw.dom _ _ eh; omega
  obtain ⟨r1, r2⟩ := hw.push (o := .miter m) (ob := .mapIter (some c) clock #[] clock) (z := 0) ⟨rfl, c, sh, z, clock, clock, Ext.put _ hnone _ _ e, rfl⟩
  refine ⟨.pointer (some ⟨w.heap.size, 0, none⟩), _, _, by simp [Instr.range, und_run hd, hgo], ?_, r1, r2⟩
  simp only [rel]
  exact ⟨_, _, _, Pl.put_same _ _ _, rfl⟩

/-- A slice is handed on as it is. -/
theorem same_run {γ : Pl} {H : AHeap} {w : World} (hw : Rw γ H w) {src e : TypeId} (hs : P.underlying src = some (.slice e)) (he : P.underlying e = some (.int .u8)) {ρ : Operand → AVal} {y : Operand} {v : AVal} {x' : Value}
    (hx : rel γ (ρ y) x') (h : pureOp ρ (.same y) = some v) :
    ∃ v' w', (convert src src x').run P w = .ok v' w' ∧ rel γ v v' ∧ Rw γ H w' ∧ Stp γ γ H H w w' := by
  simp only [pureOp] at h
  generalize ρ y = x at hx h
  cases x <;> simp at h
  rename_i b off len st cap
  subst h
  have hx0 := hx
  obtain ⟨c, sh, z, a, k, e1, rfl, _⟩ := (by simpa only [rel] using hx)
  have hc := hw.low _ _ _ _ e1
  have key : ∃ w', (markStringish ⟨c, a, none⟩).run P w = .ok () w' ∧ Rw γ H w' ∧ Stp γ γ H H w w' := by
    cases hh : w.heap[c]? with
    | none => rw [Array.getElem?_eq_none_iff] at hh; omega
    | some ob =>
      by_cases hcells : ∃ cs el fr, ob = .cells cs el fr
      · obtain ⟨cs, el, fr, rfl⟩ := hcells
        obtain ⟨lo, hi⟩ := fr
        have hsh : w.shape? c = some (el, cs.size) := by simp [World.shape?, hh]
        have hfz : w.freeze { block := c, off := cs.size } 1 = w.setObj c (.cells cs el (if lo == hi then (cs.size, cs.size + 1) else (min lo cs.size, max hi (cs.size + 1)))) := by
          simp only [World.freeze, World.setObj]
          rw [if_neg (by omega)]
          congr 1
          apply Array.ext_getElem?
          intro i
          rw [Array.getElem?_modify, Array.getElem?_setIfInBounds]
          by_cases hi' : c = i
          · subst hi'
            rw [if_pos rfl, if_pos rfl, if_pos hc, hh]
            simp
          · simp [hi']
        have hq : (lo = hi ∨ cs.size ≤ lo) → cs.size ≤ (if lo == hi then (cs.size, cs.size + 1) else (min lo cs.size, max hi (cs.size + 1))).1 := by
          intro hor
          by_cases hlo : lo = hi
          · simp [hlo]
          · have : cs.size ≤ lo := hor.resolve_left hlo
            have hb : (lo == hi) = false := by simpa using hlo
            rw [hb]
            show cs.size ≤ min lo cs.size
            omega
        generalize hqq : (if lo == hi then (cs.size, cs.size + 1) else (min lo cs.size, max hi (cs.size + 1))) = q at hfz hq
        obtain ⟨ql, qh⟩ := q
        refine ⟨w.setObj c (.cells cs el (ql, qh)), by simp [markStringish, hsh, hfz], ?_, ?_⟩
        · refine ⟨hw.fresh, hw.dom, fun x c' s' z' ex => by rw [setObj_size]; exact hw.low x c' s' z' ex, fun x c' s' z' o ex eo => ?_, hw.inj⟩
          obtain ⟨ob, h1, h2⟩ := hw.live x c' s' z' o ex eo
          by_cases hcc : c' = c
          · subst hcc
            rw [hh] at h1
            cases h1
            refine ⟨_, by rw [setObj_get, if_pos ⟨rfl, hc⟩], ?_⟩
            cases o with
            | cells l =>
              obtain ⟨cs2, e2, lo2, hi2, heq, g1, g2, g3, g4⟩ := h2
              cases heq
              subst g1
              exact ⟨cs, el, ql, qh, rfl, rfl, g2, g3, .inr (hq g4)⟩
            | map es => obtain ⟨ents, clock, heq, _⟩ := h2; cases heq
            | iter s p => obtain ⟨_, heq⟩ := h2; cases heq
            | miter m => obtain ⟨_, _, _, _, _, _, _, heq⟩ := h2; cases heq
          · exact ⟨ob, by rw [setObj_get, if_neg (fun h => hcc h.1)]; exact h1, h2⟩
        · refine ⟨Ext.refl γ, fun _ _ h => .inl h, Nat.le_refl _, fun _ _ _ => rfl, rfl, rfl, rfl, by simp [World.setObj], fun d hd hn => ?_, fun _ _ _ h => h, fun d hd hnc hn => ?_⟩
          · rw [setObj_get, if_neg]
            rintro ⟨rfl, _⟩
            exact hn _ _ e1 rfl
          · rw [setObj_get, if_neg]
            rintro ⟨rfl, _⟩
            exact hnc _ _ _ hh
      · have hsh : w.shape? c = none := by
          simp only [World.shape?, hh]
          cases ob <;> first | rfl | exact absurd ⟨_, _, _, rfl⟩ hcells
        exact ⟨w, by simp [markStringish, hsh], hw, Stp.refl _ _ _⟩
  obtain ⟨w', g1, g2, g3⟩ := key
  refine ⟨_, w', ?_, hx0, g2, g3⟩
  simp [convert, und_run hs, und_run he, g1]

theorem changes_v {γ : Pl} {H H' : AHeap} {v : AVal} {s : Sem Value} {w : World} (h : ∃ v' w' γ', s.run P w = .ok v' w' ∧ rel γ' v v' ∧ Rw γ' H' w' ∧ Stp γ γ' H H' w w') :
    Changes P γ H H' v (do pure (.value (← s))) w := by
  obtain ⟨v', w', γ', e, r1, r2, r3⟩ := h
  exact ⟨.value v', v', w', γ', by simp [e], .inl rfl, r1, r2, r3⟩

theorem changes_builtin {γ : Pl} {H H' : AHeap} {v : AVal} {c : Call} {b : Builtin} (hb : c.callee = .builtin b) (ρ' : Operand → Value) (t : TypeId) {s : Sem Value} {w : World}
    (hs : ∀ cs : Array Bool, builtin b c.argTypes t cs (c.args.map ρ') = (do pure (.value (← s))))
    (h : ∃ v' w' γ', s.run P w = .ok v' w' ∧ rel γ' v v' ∧ Rw γ' H' w' ∧ Stp γ γ' H H' w w') :
    Changes P γ H H' v (do let d ← resolve ρ' c t; invoke d.target d.args) w := by
  obtain ⟨v', w', γ', e, r1, r2, r3⟩ := h
  refine ⟨.value v', v', w', γ', ?_, .inl rfl, r1, r2, r3⟩
  simp only [resolve, hb, Sem.run_bind, Sem.run_pure, Result.andThen_ok, invoke, hs, e]

def isCall : AOp → Bool
  | .call .. | .callV .. => true
  | _ => false

/-- What changes memory, but calls. -/
theorem eff_run {γ : Pl} {H : AHeap} {w : World} (hw : Rw γ H w) {ρ : Operand → AVal} {ρ' : Operand → Value} (hρ : ∀ x, rel γ (ρ x) (ρ' x)) {cl : AM.Callee} {o : Oper} {a : AOp}
    (hc : compOp P o.op = some a) (hk : a.kind = 3) (hcall : isCall a = false) {v : AVal} {H' : AHeap} (h : effOp ρ cl H a = some (v, H')) : Changes P γ H H' v (execOp ρ' o) w := by
  have unitOf : ∀ {x : Option AHeap}, thenUnit x = some (v, H') → v = unit ∧ x = some H' := by
    intro x hx
    cases x with
    | none => cases hx
    | some y => simp [thenUnit] at hx; exact ⟨hx.1.symm, by rw [hx.2]⟩
  obtain ⟨dst, op, type, pos, after, guard⟩ := o
  cases op <;> simp only [compOp] at hc <;> try (cases hc; done)
  case makeFunc fn first caps => cases fn <;> simp at hc; subst hc; simp [AOp.kind] at hk
  case makeMap t r => cases r <;> simp at hc; subst hc; simp [AOp.kind] at hk
  case store t x y =>
    cases hn : size? P t with
    | none => rw [hn] at hc; cases hc
    | some n =>
      rw [hn] at hc
      cases hc
      obtain ⟨rfl, hx⟩ := unitOf h
      exact changes_u (astore_run hw hn (hρ x) (hρ y) hx)
  case mapUpdate t m k x =>
    cases hm : mapT P t with
    | none => rw [hm] at hc; cases hc
    | some q =>
      rw [hm] at hc
      cases hc
      obtain ⟨rfl, hx⟩ := unitOf h
      exact changes_u (amapUpdate_run (z := q.2) hw hm (hρ m) (hρ k) (hρ x) hx)
  case insert t m k x =>
    cases hm : mapT P t with
    | none => rw [hm] at hc; cases hc
    | some q =>
      rw [hm] at hc
      cases hc
      obtain ⟨rfl, hx⟩ := unitOf h
      exact changes_u (amapUpdate_run (z := q.2) hw hm (hρ m) (hρ k) (hρ x) hx)
  case next x s =>
    cases hc
    obtain ⟨v', w', e, r1, r2, r3⟩ := anext_run (P := P) hw (hρ x) h type
    exact changes_v ⟨v', w', γ, e, r1, r2, r3⟩
  case range t x =>
    split at hc <;> try (cases hc; done)
    · cases hc; simp [AOp.kind] at hk
    · rename_i kt et hd
      cases hc
      exact changes_v (arangeMap_run hw hd (hρ x) h)
  case call c =>
    unfold compCall at hc
    split at hc
    case h_1 => cases hc; simp [isCall] at hcall
    case h_2 => cases hc; simp [isCall] at hcall
    case h_3 hb =>
      split at hc <;> try (cases hc; done)
      rename_i s x t0 t1 hargs htys
      split at hc <;> try (cases hc; done)
      rename_i e d1 h0 h1
      split at hc <;> try (cases hc; done)
      rename_i st z bb he
      split at hc <;> simp at hc
      rename_i hpos
      subst hc
      obtain ⟨zv, q1, q2, q3, rfl, q5⟩ := elemT_spec he
      have ha : c.args.map ρ' = #[ρ' s, ρ' x] := by apply Array.ext'; simp [hargs]
      have ht : c.argTypes = #[t0, t1] := by apply Array.ext'; simp [htys]
      refine changes_builtin hb ρ' type (s := Builtin.append_ c.argTypes type (c.args.map ρ')) (fun cs => rfl) ?_
      rw [ha, ht]
      refine aappend_run hw type h0 h1 q1 q2 q3 q5 hpos ?_ (hρ s) (hρ x) h
      cases d1 <;> simp
    case h_4 hb =>
      split at hc <;> try (cases hc; done)
      rename_i d x t0 t1 hargs htys
      split at hc <;> try (cases hc; done)
      rename_i e h0
      obtain ⟨st, hst, rfl⟩ := Option.map_eq_some_iff.1 hc
      have ha : c.args.map ρ' = #[ρ' d, ρ' x] := by apply Array.ext'; simp [hargs]
      have ht : c.argTypes = #[t0, t1] := by apply Array.ext'; simp [htys]
      refine changes_builtin hb ρ' type (s := Builtin.copy_ c.argTypes type (c.args.map ρ')) (fun cs => rfl) ?_
      rw [ha, ht]
      exact acopy_run hw type h0 hst (hρ d) (hρ x) h
    case h_5 hb =>
      split at hc <;> try (cases hc; done)
      rename_i x t0 hargs htys
      have ha : c.args.map ρ' = #[ρ' x] := by apply Array.ext'; simp [hargs]
      have ht : c.argTypes = #[t0] := by apply Array.ext'; simp [htys]
      refine changes_builtin hb ρ' type (s := Builtin.clear_ c.argTypes type (c.args.map ρ')) (fun cs => rfl) ?_
      rw [ha, ht]
      split at hc <;> try (cases hc; done)
      · rename_i e h0
        split at hc <;> simp at hc
        rename_i st z bb he
        subst hc
        obtain ⟨zv, q1, q2, q3, rfl, q5⟩ := elemT_spec he
        obtain ⟨rfl, hx⟩ := unitOf h
        obtain ⟨w', g1, g2, g3⟩ := aclearSl_run (P := P) hw h0 q2 q5 (hρ x) hx type
        exact ⟨_, w', γ, g1, by simp [unit, rel_prim, undef], g2, g3⟩
      · rename_i kt et h0
        cases hc
        obtain ⟨rfl, hx⟩ := unitOf h
        obtain ⟨w', g1, g2, g3⟩ := aclearMap_run (P := P) hw h0 (hρ x) hx type
        exact ⟨_, w', γ, g1, by simp [unit, rel_prim, undef], g2, g3⟩
    case h_6 hb =>
      split at hc <;> try (cases hc; done)
      rename_i m k t0 ts hargs htys
      cases hm : mapT P t0 with
      | none => rw [hm] at hc; cases hc
      | some q =>
        rw [hm] at hc
        cases hc
        have ha : c.args.map ρ' = #[ρ' m, ρ' k] := by apply Array.ext'; simp [hargs]
        have ht : c.argTypes[0]? = some t0 := by rw [← Array.getElem?_toList, htys]; rfl
        refine changes_builtin hb ρ' type (s := Builtin.delete_ c.argTypes type (c.args.map ρ')) (fun cs => rfl) ?_
        rw [ha]
        obtain ⟨rfl, hx⟩ := unitOf h
        obtain ⟨w', g1, g2, g3⟩ := adelete_run (P := P) (z := q.2) hw hm (hρ m) (hρ k) hx c.argTypes ht type
        exact ⟨_, w', γ, g1, by simp [unit, rel_prim, undef], g2, g3⟩
    all_goals
      (repeat' split at hc)
      all_goals first
        | (cases hc; done)
        | (cases hc; simp [AOp.kind] at hk; done)
        | (obtain ⟨_, _, rfl⟩ := Option.map_eq_some_iff.1 hc; simp [AOp.kind] at hk; done)
  all_goals
    (repeat' split at hc)
    all_goals first
      | (cases hc; done)
      | (cases hc; simp [AOp.kind] at hk; done)
      | (obtain ⟨_, _, rfl⟩ := Option.map_eq_some_iff.1 hc; simp [AOp.kind] at hk; done)
end
end Go.AM
