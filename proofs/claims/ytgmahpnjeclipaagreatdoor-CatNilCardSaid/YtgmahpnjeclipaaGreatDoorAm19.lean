/- Regions that draw their order: what the model runs. No condition. -/
import Derived.Test.YtgmahpnjeclipaaGreatDoorAm18
namespace Go.AM
section
variable {P : Program} {ops : Array Oper} {items : List Item} {T0 : Fr} {γ0 : Pl} {H0 : AHeap} {w0 : World} {N : Nat} {df : List Deferred}
    {done rest : List Item} {ls : Array Bool} {F : Nat → Fr} {B : Nat → Nat} {V : Nat → AVal} {T : Fr} {H : AHeap} {γ : Pl} {a : Act} {w : World}

theorem getD_list {ls : Array Bool} {i : Nat} (hi : ls.getD i true = false) (j : Nat) (d : Bool) : (ls.setIfInBounds i true).getD j d = if j = i then true else ls.getD j d := by
  have hlt : i < ls.size := by
    rcases Nat.lt_or_ge i ls.size with h | h
    · exact h
    · rw [Array.getD_eq_getD_getElem?, Array.getElem?_eq_none h] at hi; simp at hi
  simp only [Array.getD_eq_getD_getElem?, Array.getElem?_setIfInBounds]
  by_cases h : j = i
  · subst h; simp [hlt]
  · simp [h, Ne.symm h]

theorem pend_list {x y : Item} (hx : Pend ls x) : Pend (ls.setIfInBounds x.1 true) y ↔ y.1 ≠ x.1 ∧ Pend ls y := by
  unfold Pend at *
  rw [getD_list hx]
  by_cases h : y.1 = x.1
  · simp [h]
  · simp [h]

theorem listed_of {ls : Array Bool} {i : Nat} (h : ls.getD i false = true) : ls.getD i true = true := by
  rw [Array.getD_eq_getD_getElem?] at *
  cases hq : ls[i]? with
  | none => rfl
  | some b => rw [hq] at h; exact h

/-- What is ahead of what is ready has been run. -/
theorem Inv.down (hp : Plan P ops items) (h : Inv ops items T0 γ0 H0 w0 N df done rest ls F B V T H γ a w) {x : Item} (hx : x ∈ items) (hr : x.1 ∈ Region.ready .any ops ls) :
    ∀ j, x.2.2.testBit j = true → ls.getD j false = true := by
  intro j hj
  obtain ⟨o, ho, hcs, hed, hbits⟩ := hp.oper x hx
  obtain ⟨_, o', ho', hall⟩ := mem_ready.1 hr
  rw [ho] at ho'
  cases ho'
  obtain ⟨e, he, hb, hor⟩ := hbits j hj
  rcases hor with rfl | ⟨y, hy, hy1, hyb⟩
  · exact hall e he hb
  · exact h.dc y hy (by rw [hy1]; exact hall e he hb) j hyb

theorem Inv.dcs (hp : Plan P ops items) (h : Inv ops items T0 γ0 H0 w0 N df done rest ls F B V T H γ a w) {x : Item} (hx : x ∈ items) (hpe : Pend ls x) (hr : x.1 ∈ Region.ready .any ops ls) :
    ∀ y ∈ items, (ls.setIfInBounds x.1 true).getD y.1 false = true → ∀ j, y.2.2.testBit j = true → (ls.setIfInBounds x.1 true).getD j false = true := by
  intro y hy hl j hj
  have hup : ls.getD j false = true → (ls.setIfInBounds x.1 true).getD j false = true := fun h => getD_set_true h
  rw [getD_list hpe] at hl
  by_cases e : y.1 = x.1
  · have := hp.uniq hy hx e
    subst this
    exact hup (h.down hp hx hr j hj)
  · rw [if_neg e] at hl
    exact hup (h.dc y hy hl j hj)

/-- A waiting operation has been run by the model. -/
theorem Inv.taken (hp : Plan P ops items) (h : Inv ops items T0 γ0 H0 w0 N df done rest ls F B V T H γ a w) (hN : ∀ x ∈ items, ∀ d, x.2.1.dst = some d → d < N)
    {x : Item} (hx : x ∈ done) (hpe : Pend ls x) (hr : x.1 ∈ Region.ready .any ops ls) {γ' : Pl} {v' : Value} {w' : World} (hv : rel γ' (V x.1) v') (hrw : Rw γ' H w')
    (hst : Stp γ0 γ' H0 H w0 w') (hext : Ext γ γ') (hm : ∀ y ∈ done, y.1 ≠ x.1 → Pend ls y → wanted y.2.1.guard (F y.1) = true → y.2.1.op.kind = 2 → γ' (B y.1) = none) :
    Inv ops items T0 γ0 H0 w0 N df done rest (ls.setIfInBounds x.1 true) F B V T H γ' (a.put x.2.1.dst v') w' := by
  have hxI := h.memD hx
  have hpl : ∀ {y : Item}, Pend (ls.setIfInBounds x.1 true) y ↔ y.1 ≠ x.1 ∧ Pend ls y := pend_list hpe
  have hput : ∀ t, x.2.1.dst ≠ some t → (a.put x.2.1.dst v').tmps.getD t undef = a.tmps.getD t undef := fun t ht => by
    cases hd : x.2.1.dst with
    | none => rfl
    | some d =>
      rw [put_getD a (by rw [h.n]; exact hN x hxI d hd), if_neg]
      rintro rfl
      exact ht hd
  refine {
    split := h.split
    size := by rw [Array.size_setIfInBounds]; exact h.size
    dc := h.dcs hp hxI hpe hr
    notYet := fun y hy => hpl.2 ⟨fun e => ?_, h.notYet y hy⟩
    rw := hrw
    stp := hst
    n := by rw [put_size]; exact h.n
    df := ?_
    frT := fun t ht => ?_
    frP := fun t ht => ?_
    old := h.old
    frame := fun y hy py => h.frame y hy (hpl.1 py).2
    val := fun y hy py => h.val y hy (hpl.1 py).2
    noEff := fun y hy py => h.noEff y hy (hpl.1 py).2
    skip := fun y hy py => h.skip y hy (hpl.1 py).2
    look := fun y hy py => h.look y hy (hpl.1 py).2
    make := fun y hy py hwn hk => ?_
    apart := fun y hy z hz py pz => h.apart y hy z hz (hpl.1 py).2 (hpl.1 pz).2 }
  · exact (h.pair hp hx hy).ne e.symm
  · rw [← h.df]; cases x.2.1.dst <;> rfl
  · by_cases hxt : x.2.1.dst = some t
    · rw [h.val x hx hpe t hxt, hxt, put_getD a (by rw [h.n]; exact hN x hxI t hxt), if_pos rfl]
      exact hv
    · rw [hput t hxt]
      refine rel_mono hext _ _ (h.frT t fun y hy py e => ?_)
      by_cases hyx : y.1 = x.1
      · have := hp.uniq (h.memD hy) hxI hyx
        subst this
        exact hxt e
      · exact ht y hy (hpl.2 ⟨hyx, py⟩) e
  · obtain ⟨y, hy, py, e⟩ := ht
    obtain ⟨hyx, py⟩ := hpl.1 py
    have hxt : x.2.1.dst ≠ some t := fun e2 => hyx (by rw [hp.dst (h.memD hy) hxI e e2])
    rw [hput t hxt]
    exact rel_mono hext _ _ (h.frP t ⟨y, hy, py, e⟩)
  · obtain ⟨hyx, py⟩ := hpl.1 py
    obtain ⟨ob, f, m1, m2, m3, m4, m5⟩ := h.make y hy py hwn hk
    exact ⟨ob, f, m1, m2, hm y hy hyx py hwn hk, m4, m5⟩

/-- The slots that a waiting operation looks at, when it is ready. -/
theorem Inv.slots (hp : Plan P ops items) (h : Inv ops items T0 γ0 H0 w0 N df done rest ls F B V T H γ a w)
    {x : Item} (hx : x ∈ done) (hpe : Pend ls x) (hr : x.1 ∈ Region.ready .any ops ls) : ∀ t ∈ slotsOf x.2.1, rel γ (slot (F x.1) t) (a.tmps.getD t undef) := by
  intro t ht
  have hxI := h.memD hx
  have hdown := h.down hp hxI hr
  obtain ⟨f1, f2⟩ := h.frame x hx hpe t ht
  by_cases hex : ∃ y ∈ done, y.2.1.dst = some t ∧ x.2.2.testBit y.1 = true
  · rw [f1 hex]
    obtain ⟨y, hy, ey, by_⟩ := hex
    refine h.frT t fun z hz pz ez => ?_
    have := hp.dst (h.memD hz) (h.memD hy) ez ey
    subst this
    have := listed_of (hdown _ by_)
    unfold Pend at pz
    rw [this] at pz
    cases pz
  · have hno : ∀ y ∈ done, y.2.1.dst = some t → x.2.2.testBit y.1 = false := fun y hy ey => by
      cases hb : x.2.2.testBit y.1 with
      | false => rfl
      | true => exact absurd ⟨y, hy, ey, hb⟩ hex
    rw [f2 hno]
    by_cases hpd : ∃ y ∈ done, Pend ls y ∧ y.2.1.dst = some t
    · exact h.frP t hpd
    · have h1 : slot T t = slot T0 t := h.old t fun y hy ey => by
        -- y has been run, and is not ahead of x
        have py : ¬ Pend ls y := fun py => hpd ⟨y, hy, py, ey⟩
        have hyl : ls.getD y.1 false = true := by
          have hy1 : ls.getD y.1 true = true := by
            unfold Pend at py
            cases hb : ls.getD y.1 true with
            | true => rfl
            | false => exact absurd hb py
          have hlt : y.1 < ls.size := by
            obtain ⟨o, ho, _⟩ := hp.oper y (h.memD hy)
            rw [h.size]
            exact (Array.getElem?_eq_some_iff.1 ho).1
          rw [Array.getD_eq_getD_getElem?, Array.getElem?_eq_getElem hlt] at hy1 ⊢
          exact hy1
        rcases hp.any (h.memD hy) hxI with e | e | e
        · subst e; exact (hp.self hxI).2 t ey ht
        · have := e.wr t ey ht
          rw [hno y hy ey] at this
          cases this
        · have h2 := (e.rw t ey ht).1
          have h3 := listed_of (h.dc y (h.memD hy) hyl _ h2)
          unfold Pend at hpe
          rw [h3] at hpe
          cases hpe
      rw [← h1]
      exact h.frT t fun y hy py ey => hpd ⟨y, hy, py, ey⟩

theorem Back.ok {R : Value → World → Prop} {v : Value} {w : World} (h : R v w) : Back P R (.ok (.value v) w) := h

/-- The model runs a waiting operation. -/
theorem Inv.take (hp : Plan P ops items) (h : Inv ops items T0 γ0 H0 w0 N df done rest ls F B V T H γ a w) (hN : ∀ x ∈ items, ∀ d, x.2.1.dst = some d → d < N)
    {x : Item} (hx : x ∈ done) (hpe : Pend ls x) (hr : x.1 ∈ Region.ready .any ops ls) {Q : Exit → Act → World → Prop} {K : Act → World → Prop}
    (hK : ∀ a' w' γ', Inv ops items T0 γ0 H0 w0 N df done rest (ls.setIfInBounds x.1 true) F B V T H γ' a' w' → K a' w') : wpOp P ops Q x.1 K a w := by
  have hxI := h.memD hx
  have hsl := h.slots hp hx hpe hr
  obtain ⟨o, ho, hcs, hed, hbits⟩ := hp.oper x hxI
  obtain ⟨hdst, hcomp⟩ := compStep_op hcs
  unfold wpOp
  rw [ho]
  simp only
  rw [wanted_same hcs fun t b hg => hsl t (mem_slots_guard hg)]
  have hmk : ∀ y ∈ done, y.1 ≠ x.1 → Pend ls y → wanted y.2.1.guard (F y.1) = true → y.2.1.op.kind = 2 → γ (B y.1) = none := fun y hy _ py wy ky => by
    obtain ⟨ob, f, m1, m2, m3, _⟩ := h.make y hy py wy ky
    exact m3
  cases hwn : wanted x.2.1.guard (F x.1) with
  | false =>
    simp only [Bool.false_eq_true, if_false]
    rw [← hdst]
    refine hK _ _ γ (h.taken hp hN hx hpe hr ?_ h.rw h.stp (Ext.refl γ) hmk)
    rw [h.skip x hx hpe hwn]
    simp [unit, rel_prim, undef]
  | true =>
    simp only [if_true]
    refine .inl ?_
    have hρ := own_rel (γ := γ) (T := F x.1) (a := a) (l := x.2.1.op.operands) fun t ht => hsl t (mem_slots_tmp ht)
    have heq := own_eq (T := F x.1) (a := a) (l := x.2.1.op.operands)
    have hk3 : x.2.1.op.kind ≠ 3 := by
      intro e
      have := h.noEff x hx hpe
      simp [isEff, e] at this
    have hle := kind_le x.2.1.op
    by_cases hk2 : x.2.1.op.kind = 2
    · obtain ⟨ob, f, m1, m2, m3, m4, m5⟩ := h.make x hx hpe hwn hk2
      have hc : compOp P o.op = some x.2.1.op := by
        rcases hcomp with e | e
        · exact e
        · rw [e] at hk2; simp [AOp.kind] at hk2
      obtain ⟨v', w', o', z, e, g1, g2, g3, g4, g5, g6⟩ := make_run (w := w) hρ hc hk2 (by rw [makeOp_congr heq]; exact m1)
      have hext := Ext.put (γ := γ) (w.heap.size, 0, z) m3
      refine Back.wp (R := fun v w1 => v = v' ∧ w1 = w') (by rw [e]; exact ⟨rfl, rfl⟩) fun v w1 hvw => ?_
      obtain ⟨rfl, rfl⟩ := hvw
      rw [← hdst]
      refine hK _ _ _ (h.taken hp hN hx hpe hr (γ' := γ.put (B x.1) (w.heap.size, 0, z)) ?_ ?_ ?_ hext fun y hy hne py wy ky => ?_)
      · rw [m2]; exact g6 _ _ (Pl.put_same _ _ _)
      · exact h.rw.put m3 m5 g1 g2 g3 g4 (g5 _ hext)
      · have hs := h.stp
        refine ⟨hs.ext.trans hext, fun b p ep => ?_, hs.hn, hs.out, g2.trans hs.os, g3.trans hs.tape, g4.trans hs.output, ?_, fun c hc hn => ?_, hs.dead, fun c hc hnc hn => ?_⟩
        · by_cases hb : b = B x.1
          · subst hb
            rw [Pl.put_same] at ep
            cases ep
            exact .inr ⟨m4, .inr hs.size⟩
          · rw [Pl.put_other _ _ hb] at ep
            exact hs.img b p ep
        · rw [g1, Array.size_push]; have := hs.size; omega
        · rw [g1, Array.getElem?_push, if_neg (by have := hs.size; omega)]
          exact hs.keep c hc hn
        · rw [g1, Array.getElem?_push, if_neg (by have := hs.size; omega)]
          exact hs.keepM c hc hnc hn
      · rw [Pl.put_other]
        · exact hmk y hy hne py wy ky
        · exact h.apart y hy x hx py hpe wy hwn ky hk2 hne
    · have hl := h.look x hx hpe hwn hk2
      have hc : compOp P o.op = some x.2.1.op := by
        rcases hcomp with e | e
        · exact e
        · rw [e] at hl; cases hl
      obtain ⟨v', w', e, r1, r2, r3⟩ := look_run h.rw hρ hc (by omega) (by rw [lookOp_congr heq]; exact hl)
      refine Back.wp (R := fun v w1 => v = v' ∧ w1 = w') (by rw [e]; exact ⟨rfl, rfl⟩) fun v w1 hvw => ?_
      obtain ⟨rfl, rfl⟩ := hvw
      rw [← hdst]
      exact hK _ _ γ (h.taken hp hN hx hpe hr r1 r2 (h.stp.trans r3) (Ext.refl γ) hmk)

/-- Machine and model have changed memory. -/
theorem Inv.changed (hp : Plan P ops items) {x : Item} (h : Inv ops items T0 γ0 H0 w0 N df done (x :: rest) ls F B V T H γ a w) (hN : ∀ x ∈ items, ∀ d, x.2.1.dst = some d → d < N)
    (hr : x.1 ∈ Region.ready .any ops ls) {eqv : AVal → AVal → Bool} (heqv : ∀ v w, eqv v w = true → v = w) (heff : isEff x.2.1 = true) {v : AVal} {H' : AHeap}
    (hck : recheck eqv (aput T x.2.1.dst v) H' (checksOf done x.2) = true) {γ' : Pl} {v' : Value} {w' : World} (hv : rel γ' v v') (hrw : Rw γ' H' w') (hst : Stp γ γ' H H' w w') :
    Inv ops items T0 γ0 H0 w0 N df (x :: done) rest (ls.setIfInBounds x.1 true) F B V (aput T x.2.1.dst v) H' γ' (a.put x.2.1.dst v') w' := by
  have hxI := h.memR (x := x) (by simp)
  have hpe : Pend ls x := h.notYet x (by simp)
  have hpair : ∀ y ∈ done, PairS y x := fun y hy => h.pair hp hy (by simp)
  have hpl : ∀ {y : Item}, Pend (ls.setIfInBounds x.1 true) y ↔ y.1 ≠ x.1 ∧ Pend ls y := pend_list hpe
  have hmem : ∀ {y : Item}, y ∈ x :: done → Pend (ls.setIfInBounds x.1 true) y → y ∈ done ∧ Pend ls y := fun hy py => by
    obtain ⟨h1, h2⟩ := hpl.1 py
    rcases List.mem_cons.1 hy with e | e
    · exact absurd (by rw [e]) h1
    · exact ⟨e, h2⟩
  have hput : ∀ t, x.2.1.dst ≠ some t → slot (aput T x.2.1.dst v) t = slot T t := fun t ht => by
    cases hd : x.2.1.dst with
    | none => rfl
    | some d => rw [slot_aput, if_neg]; rintro rfl; exact ht hd
  have hputs : ∀ d, x.2.1.dst = some d → slot (aput T x.2.1.dst v) d = v := fun d hd => by rw [hd, slot_aput, if_pos rfl]
  have hputa : ∀ t, x.2.1.dst ≠ some t → (a.put x.2.1.dst v').tmps.getD t undef = a.tmps.getD t undef := fun t ht => by
    cases hd : x.2.1.dst with
    | none => rfl
    | some d =>
      rw [put_getD a (by rw [h.n]; exact hN x hxI d hd), if_neg]
      rintro rfl
      exact ht hd
  have hframe : ∀ y ∈ x :: done, Pend (ls.setIfInBounds x.1 true) y → ∀ t ∈ slotsOf y.2.1,
      ((∃ z ∈ x :: done, z.2.1.dst = some t ∧ y.2.2.testBit z.1 = true) → slot (F y.1) t = slot (aput T x.2.1.dst v) t) ∧
      ((∀ z ∈ x :: done, z.2.1.dst = some t → y.2.2.testBit z.1 = false) → slot (F y.1) t = slot T0 t) := fun y hy py t ht => by
    obtain ⟨hyd, py⟩ := hmem hy py
    obtain ⟨f1, f2⟩ := h.frame y hyd py t ht
    refine ⟨fun ⟨z, hz, ez, bz⟩ => ?_, fun hall => f2 fun z hz e => hall z (by simp [hz]) e⟩
    rcases List.mem_cons.1 hz with e | hzd
    · rw [e, (hpair y hyd).nb] at bz; cases bz
    · rw [hput t fun ex => (hpair z hzd).dst t ez ex]
      exact f1 ⟨z, hzd, ez, bz⟩
  have hold : ∀ t, (∀ y ∈ x :: done, y.2.1.dst ≠ some t) → slot (aput T x.2.1.dst v) t = slot T0 t := fun t ht => by
    rw [hput t (ht x (by simp))]
    exact h.old t fun y hy => ht y (by simp [hy])
  refine {
    split := by rw [← h.split]; simp
    size := by rw [Array.size_setIfInBounds]; exact h.size
    dc := h.dcs hp hxI hpe hr
    notYet := fun y hy => hpl.2 ⟨fun e => ?_, h.notYet y (by simp [hy])⟩
    rw := hrw
    stp := h.stp.trans hst
    n := by rw [put_size]; exact h.n
    df := ?_
    frT := fun t ht => ?_
    frP := fun t ht => ?_
    old := hold
    frame := hframe
    val := fun y hy py d hd => ?_
    noEff := fun y hy py => ?_
    skip := fun y hy py hwn => ?_
    look := fun y hy py hwn hk => ?_
    make := fun y hy py hwn hk => ?_
    apart := fun y hy z hz py pz => h.apart y (hmem hy py).1 z (hmem hz pz).1 (hmem hy py).2 (hmem hz pz).2 }
  · have hok := hp.ok
    rw [← h.split] at hok
    exact (pairOk_spec (planOk_pair hok y hy)).ne e.symm
  · rw [← h.df]; cases x.2.1.dst <;> rfl
  · by_cases hxt : x.2.1.dst = some t
    · rw [hputs t hxt, hxt, put_getD a (by rw [h.n]; exact hN x hxI t hxt), if_pos rfl]
      exact hv
    · rw [hput t hxt, hputa t hxt]
      exact rel_mono hst.ext _ _ (h.frT t fun y hy py => ht y (by simp [hy]) (hpl.2 ⟨(hpair y hy).ne, py⟩))
  · obtain ⟨y, hy, py, e⟩ := ht
    obtain ⟨hyd, py⟩ := hmem hy py
    rw [hputa t ((hpair y hyd).dst t e)]
    exact rel_mono hst.ext _ _ (h.frP t ⟨y, hyd, py, e⟩)
  · obtain ⟨hyd, py⟩ := hmem hy py
    rw [hput d ((hpair y hyd).dst d hd)]
    exact h.val y hyd py d hd
  · obtain ⟨hyd, py⟩ := hmem hy py
    exact h.noEff y hyd py
  · obtain ⟨hyd, py⟩ := hmem hy py
    exact h.skip y hyd py hwn
  · obtain ⟨hyd, py'⟩ := hmem hy py
    have hl := h.look y hyd py' hwn hk
    have hle := kind_le y.2.1.op
    have hk3 : y.2.1.op.kind ≠ 3 := by
      intro e
      have := h.noEff y hyd py'
      simp [isEff, e] at this
    have hk4 : y.2.1.op.kind = 0 ∨ y.2.1.op.kind = 1 := by omega
    rcases hk4 with hk0 | hk1
    · unfold lookOp at hl ⊢
      rw [hk0] at hl ⊢
      exact hl
    · -- a read: it was looked at again
      have hread : isRead y.2.1 = true := by simp [isRead, hk1]
      have hnb : x.2.2.testBit y.1 = false := by
        cases hb : x.2.2.testBit y.1 with
        | false => rfl
        | true =>
          have h3 := listed_of (h.down hp hxI hr _ hb)
          unfold Pend at py'
          rw [h3] at py'
          cases py'
      have hsame : ∀ t ∈ slotsOf y.2.1, slot (F y.1) t = slot (aput T x.2.1.dst v) t := fun t ht => by
        obtain ⟨f1, f2⟩ := hframe y hy py t ht
        by_cases hex : ∃ z ∈ x :: done, z.2.1.dst = some t ∧ y.2.2.testBit z.1 = true
        · exact f1 hex
        · have hno : ∀ z ∈ x :: done, z.2.1.dst = some t → y.2.2.testBit z.1 = false := fun z hz ez => by
            cases hb : y.2.2.testBit z.1 with
            | false => rfl
            | true => exact absurd ⟨z, hz, ez, hb⟩ hex
          rw [f2 hno, hold t fun z hz ez => ?_]
          have hzI : z ∈ items := by
            rcases List.mem_cons.1 hz with e | e
            · rw [e]; exact hxI
            · exact h.memD e
          rcases hp.any hzI (h.memD hyd) with e | e | e
          · subst e; exact (hp.self hzI).2 t ez ht
          · have := e.wr t ez ht
            rw [hno z hz ez] at this
            cases this
          · have := (e.rw t ez ht).2
            rw [hread] at this
            cases this
      have hin : y.2.1 ∈ checksOf done x.2 := by
        unfold checksOf
        rw [if_pos heff]
        exact List.mem_filterMap.2 ⟨y, hyd, by simp [hread, hnb]⟩
      have key : ∀ l : List AStep, recheck eqv (aput T x.2.1.dst v) H' l = true → y.2.1 ∈ l →
          ∃ u d, readOp (aeval (aput T x.2.1.dst v)) H' y.2.1.op = some u ∧ y.2.1.dst = some d ∧ eqv u (slot (aput T x.2.1.dst v) d) = true := by
        intro l
        induction l with
        | nil => intro _ hl; simp at hl
        | cons r l ih =>
          intro hc hl
          simp only [recheck, Bool.and_eq_true] at hc
          rcases List.mem_cons.1 hl with e | hl
          · subst e
            have h1 := hc.1
            rw [← wanted_frame hsame, hwn] at h1
            simp only at h1
            split at h1
            · rename_i u d hu hd
              exact ⟨u, d, hu, hd, h1⟩
            · cases h1
          · exact ih hc.2 hl
      obtain ⟨u, d, hu, hd, he⟩ := key _ hck hin
      have hud := heqv _ _ he
      rw [hput d ((hpair y hyd).dst d hd), h.val y hyd py' d hd] at hud
      rw [lookOp_congr (aeval_same hsame)]
      unfold lookOp
      rw [hk1]
      simp only
      rw [hu, hud]
  · obtain ⟨hyd, py⟩ := hmem hy py
    obtain ⟨ob, f, m1, m2, m3, m4, m5⟩ := h.make y hyd py hwn hk
    have hlt : B y.1 < H.n := by
      rcases Nat.lt_or_ge (B y.1) H.n with h1 | h1
      · exact h1
      · rw [h.rw.fresh _ h1] at m5; cases m5
    refine ⟨ob, f, m1, m2, ?_, m4, by rw [hst.out _ m3 hlt]; exact m5⟩
    cases eg : γ' (B y.1) with
    | none => rfl
    | some p =>
      rcases hst.img _ _ eg with e | ⟨e, _⟩
      · rw [m3] at e; cases e
      · omega
end
end Go.AM
