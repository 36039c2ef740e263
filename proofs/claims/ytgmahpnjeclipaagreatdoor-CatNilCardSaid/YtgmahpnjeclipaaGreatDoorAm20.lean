/- Regions that draw their order, whole. No condition but that the program draws all orders. -/
import Derived.Test.YtgmahpnjeclipaaGreatDoorAm19
namespace Go.AM
section
variable {P : Program} {ops : Array Oper} {items : List Item} {T0 : Fr} {γ0 : Pl} {H0 : AHeap} {w0 : World} {N : Nat} {df : List Deferred}
    {done rest : List Item} {ls : Array Bool} {F : Nat → Fr} {B : Nat → Nat} {V : Nat → AVal} {T : Fr} {H : AHeap} {γ : Pl} {a : Act} {w : World}

/-- The model runs the change that is the machine's next operation. -/
theorem Inv.change (hp : Plan P ops items) {x : Item} (h : Inv ops items T0 γ0 H0 w0 N df done (x :: rest) ls F B V T H γ a w) (hN : ∀ x ∈ items, ∀ d, x.2.1.dst = some d → d < N)
    (hr : x.1 ∈ Region.ready .any ops ls) {eqv : AVal → AVal → Bool} (heqv : ∀ v w, eqv v w = true → v = w) {cl : AM.Callee} (hcl : CalleeOk P cl) (heff : isEff x.2.1 = true) {T' : Fr} {H' : AHeap}
    (hrun : runStep cl x.2.1 T H = some (T', H')) (hck : recheck eqv T' H' (checksOf done x.2) = true) {Q : Exit → Act → World → Prop} {K : Act → World → Prop}
    (hK : ∀ a' w' γ', Inv ops items T0 γ0 H0 w0 N df (x :: done) rest (ls.setIfInBounds x.1 true) F B V T' H' γ' a' w' → K a' w') : wpOp P ops Q x.1 K a w := by
  have hxI := h.memR (x := x) (by simp)
  have hpair : ∀ y ∈ done, PairS y x := fun y hy => h.pair hp hy (by simp)
  have hsl : ∀ t ∈ slotsOf x.2.1, rel γ (slot T t) (a.tmps.getD t undef) := fun t ht => h.frT t fun y hy py ey => by
    have h1 := (hpair y hy).wr t ey ht
    have h3 := listed_of (h.down hp hxI hr _ h1)
    unfold Pend at py
    rw [h3] at py
    cases py
  obtain ⟨o, ho, hcs, hed, hbits⟩ := hp.oper x hxI
  obtain ⟨hdst, hcomp⟩ := compStep_op hcs
  unfold wpOp
  rw [ho]
  simp only
  rw [wanted_same hcs fun t b hg => hsl t (mem_slots_guard hg)]
  unfold runStep at hrun
  cases hwn : wanted x.2.1.guard T with
  | false =>
    rw [hwn] at hrun
    simp only [Option.some.injEq, Prod.mk.injEq] at hrun
    obtain ⟨rfl, rfl⟩ := hrun
    simp only [Bool.false_eq_true, if_false]
    rw [← hdst]
    exact hK _ _ γ (h.changed hp hN hr heqv heff hck (by simp [unit, rel_prim, undef]) h.rw (Stp.refl _ _ _))
  | true =>
    rw [hwn] at hrun
    simp only at hrun
    split at hrun <;> try (cases hrun; done)
    rename_i v H1 hstep
    simp only [Option.some.injEq, Prod.mk.injEq] at hrun
    obtain ⟨rfl, rfl⟩ := hrun
    simp only [if_true]
    refine .inl ?_
    have hk : x.2.1.op.kind = 3 := by simpa [isEff] using heff
    have hρ := own_rel (γ := γ) (T := T) (a := a) (l := x.2.1.op.operands) fun t ht => hsl t (mem_slots_tmp ht)
    have heq := own_eq (T := T) (a := a) (l := x.2.1.op.operands)
    have hc : compOp P o.op = some x.2.1.op := by
      rcases hcomp with e | e
      · exact e
      · rw [e] at hk; simp [AOp.kind] at hk
    have he : effOp (aeval T) cl H x.2.1.op = some (v, H1) := by
      unfold stepOp at hstep
      rw [hk] at hstep
      exact hstep
    refine Back.wp (change_run hcl h.rw hρ hc hk (by rw [effOp_congr heq]; exact he)) fun v' w' hpost => ?_
    obtain ⟨γ', r1, r2, r3⟩ := hpost
    rw [← hdst]
    exact hK _ _ γ' (h.changed hp hN hr heqv heff hck r1 r2 r3)

/-- The model runs an operation that the machine has still ahead. -/
theorem Inv.advance (hp : Plan P ops items) (hN : ∀ x ∈ items, ∀ d, x.2.1.dst = some d → d < N) {eqv : AVal → AVal → Bool} (heqv : ∀ v w, eqv v w = true → v = w) {cl : AM.Callee} (hcl : CalleeOk P cl)
    {x : Item} (hr : x.1 ∈ Region.ready .any ops ls) {T1 : Fr} {H1 : AHeap} {Q : Exit → Act → World → Prop} {K : Act → World → Prop}
    (hK : ∀ done' rest' F' B' V' T' H' γ' a' w', Inv ops items T0 γ0 H0 w0 N df done' rest' (ls.setIfInBounds x.1 true) F' B' V' T' H' γ' a' w' →
      runDrawn eqv cl (planSteps done' rest') T' H' = some (T1, H1) → K a' w') :
    ∀ (rest done : List Item) (F : Nat → Fr) (B : Nat → Nat) (V : Nat → AVal) (T : Fr) (H : AHeap), Inv ops items T0 γ0 H0 w0 N df done rest ls F B V T H γ a w →
      runDrawn eqv cl (planSteps done rest) T H = some (T1, H1) → x ∈ rest → wpOp P ops Q x.1 K a w := by
  intro rest
  induction rest with
  | nil => intro done F B V T H h hrun hx; simp at hx
  | cons y rest ih =>
    intro done F B V T H h hrun hx
    have hyI := h.memR (x := y) (by simp)
    have hxI := h.memR hx
    simp only [planSteps, runDrawn] at hrun
    split at hrun <;> try (cases hrun; done)
    rename_i T' H' hstep
    split at hrun <;> try (cases hrun; done)
    rename_i hck
    cases he : isEff y.2.1 with
    | false =>
      obtain ⟨F', B', V', h'⟩ := h.delay hp he hstep
      rcases List.mem_cons.1 hx with e | hx'
      · subst e
        exact h'.take hp hN (x := x) (by simp) (h.notYet x (by simp)) hr fun a' w' γ' hi => hK _ _ _ _ _ _ _ _ _ _ hi hrun
      · exact ih _ _ _ _ _ _ h' hrun hx'
    | true =>
      rcases List.mem_cons.1 hx with e | hx'
      · subst e
        exact h.change hp hN hr heqv hcl he hstep hck fun a' w' γ' hi => hK _ _ _ _ _ _ _ _ _ _ hi hrun
      · exfalso
        have hok := hp.ok
        rw [← h.split] at hok
        have hps := pairOk_spec (planOk_pair hok x hx')
        have h1 := h.down hp hxI hr _ (hps.eff he)
        have h2 := h.notYet y (by simp)
        unfold Pend at h2
        rw [listed_of h1] at h2
        cases h2

/-- What an end of a region, or of a code, has. -/
def Fin (γ : Pl) (H : AHeap) (w : World) (a : Act) (T' : Fr) (H' : AHeap) (a' : Act) (w' : World) : Prop :=
  ∃ γ', FrRel γ' T' a' ∧ Rw γ' H' w' ∧ Stp γ γ' H H' w w' ∧ a'.tmps.size = a.tmps.size ∧ a'.defers = a.defers

theorem Fin.trans {γ γ1 : Pl} {H H1 H2 : AHeap} {w w1 w2 : World} {a a1 a2 : Act} {T2 : Fr} (h1 : Stp γ γ1 H H1 w w1) (h2 : a1.tmps.size = a.tmps.size) (h3 : a1.defers = a.defers)
    (h : Fin γ1 H1 w1 a1 T2 H2 a2 w2) : Fin γ H w a T2 H2 a2 w2 := by
  obtain ⟨γ', k1, k2, k3, k4, k5⟩ := h
  exact ⟨γ', k1, k2, h1.trans k3, k4.trans h2, k5.trans h3⟩

theorem countP_lt {α : Type} {p q : α → Bool} (hpq : ∀ x, q x = true → p x = true) : ∀ {l : List α} {x : α}, x ∈ l → p x = true → q x = false → l.countP q < l.countP p
  | y :: l, x, hx, hp, hq => by
    have hle : l.countP q ≤ l.countP p := List.countP_mono_left fun z _ => hpq z
    rcases List.mem_cons.1 hx with e | hx
    · subst e
      rw [List.countP_cons, List.countP_cons, hp, hq]
      simp
      omega
    · have := countP_lt hpq hx hp hq
      rw [List.countP_cons, List.countP_cons]
      cases h1 : q y with
      | false => simp; split <;> omega
      | true => rw [hpq y h1]; simp; omega

/-- Every order comes to the machine's end. -/
theorem Inv.go (hp : Plan P ops items) (hN : ∀ x ∈ items, ∀ d, x.2.1.dst = some d → d < N) {eqv : AVal → AVal → Bool} (heqv : ∀ v w, eqv v w = true → v = w) {cl : AM.Callee} (hcl : CalleeOk P cl)
    {T1 : Fr} {H1 : AHeap} {Q : Exit → Act → World → Prop}
    (hQ : ∀ a' w' γ', FrRel γ' T1 a' → Rw γ' H1 w' → Stp γ0 γ' H0 H1 w0 w' → a'.tmps.size = N → a'.defers = df → Q .normal a' w') :
    ∀ (fuel : Nat) (ls : Array Bool) (done rest : List Item) (F : Nat → Fr) (B : Nat → Nat) (V : Nat → AVal) (T : Fr) (H : AHeap) (γ : Pl) (a : Act) (w : World),
      Inv ops items T0 γ0 H0 w0 N df done rest ls F B V T H γ a w → runDrawn eqv cl (planSteps done rest) T H = some (T1, H1) →
      items.countP (fun x => !ls.getD x.1 true) ≤ fuel → wpAny P .any ops Q fuel ls a w := by
  -- the end
  have hend : ∀ (ls : Array Bool) (done rest : List Item) (F : Nat → Fr) (B : Nat → Nat) (V : Nat → AVal) (T : Fr) (H : AHeap) (γ : Pl) (a : Act) (w : World),
      Inv ops items T0 γ0 H0 w0 N df done rest ls F B V T H γ a w → runDrawn eqv cl (planSteps done rest) T H = some (T1, H1) → (∀ x ∈ items, ¬ Pend ls x) → Q .normal a w := by
    intro ls done rest F B V T H γ a w h hrun hall
    have hrest : rest = [] := by
      cases rest with
      | nil => rfl
      | cons y l => exact absurd (h.notYet y (by simp)) (hall y (h.memR (by simp)))
    subst hrest
    simp only [planSteps, runDrawn, Option.some.injEq, Prod.mk.injEq] at hrun
    obtain ⟨rfl, rfl⟩ := hrun
    exact hQ a w γ (fun t => h.frT t fun x hx px => absurd px (hall x (h.memD hx))) h.rw h.stp h.n h.df
  -- what is ready, when something is left
  have hsome : ∀ (ls : Array Bool), ls.size = ops.size → ∀ x ∈ items, Pend ls x → Region.ready .any ops ls ≠ [] := by
    intro ls hsz x hx px
    -- the first that is left
    have first : ∀ (l1 l2 : List Item), l1 ++ l2 = items → (∀ y ∈ l1, ls.getD y.1 true = true) → x ∈ l2 → ∃ y : Item, y.1 ∈ Region.ready .any ops ls := by
      intro l1 l2
      induction l2 generalizing l1 with
      | nil => intro _ _ h; simp at h
      | cons y l2 ih =>
        intro he hl hxl
        have hyI : y ∈ items := by rw [← he]; simp
        cases hy : ls.getD y.1 true with
        | true =>
          refine ih (l1 ++ [y]) (by rw [← he]; simp) (fun z hz => ?_) ?_
          · rcases List.mem_append.1 hz with h | h
            · exact hl z h
            · simp at h; subst h; exact hy
          · rcases List.mem_cons.1 hxl with e | h
            · subst e; unfold Pend at px; rw [hy] at px; cases px
            · exact h
        | false =>
          refine ⟨y, mem_ready.2 ⟨hy, ?_⟩⟩
          obtain ⟨o, ho, hcs, hed, hbits⟩ := hp.oper y hyI
          refine ⟨o, ho, fun e he' hb => ?_⟩
          obtain ⟨h1, h2⟩ := hed e he' hb
          obtain ⟨z, hz, hz1⟩ := hp.all e.on h2
          have hz' := hz
          rw [← he] at hz'
          have hzl : z ∈ l1 := by
            rcases List.mem_append.1 hz' with h | h
            · exact h
            · exfalso
              rcases List.mem_cons.1 h with e2 | h
              · subst e2
                rw [← hz1, (hp.self hz).1] at h1
                cases h1
              · have hok := hp.ok
                rw [← he] at hok
                have := (pairOk_spec (planOk_pair hok z h)).nb
                rw [hz1, h1] at this
                cases this
          have h3 := hl z hzl
          rw [hz1] at h3
          have hlt : e.on < ls.size := by rw [hsz]; exact h2
          rw [Array.getD_eq_getD_getElem?, Array.getElem?_eq_getElem hlt] at h3 ⊢
          exact h3
    obtain ⟨y, hy⟩ := first [] items rfl (fun y hy => by simp at hy) hx
    intro e
    rw [e] at hy
    simp at hy
  intro fuel
  induction fuel with
  | zero =>
    intro ls done rest F B V T H γ a w h hrun hcount
    have hall : ∀ x ∈ items, ¬ Pend ls x := fun x hx px => by
      have : 0 < items.countP (fun x => !ls.getD x.1 true) := List.countP_pos_iff.2 ⟨x, hx, by unfold Pend at px; simp [px]⟩
      omega
    refine ⟨?_, hend _ _ _ _ _ _ _ _ _ _ _ h hrun hall⟩
    cases hrd : Region.ready .any ops ls with
    | nil => rfl
    | cons i l =>
      exfalso
      have hi : i ∈ Region.ready .any ops ls := by rw [hrd]; simp
      obtain ⟨h1, o, ho, _⟩ := mem_ready.1 hi
      obtain ⟨x, hx, rfl⟩ := hp.all i (Array.getElem?_eq_some_iff.1 ho).1
      exact hall x hx h1
  | succ fuel ih =>
    intro ls done rest F B V T H γ a w h hrun hcount
    refine ⟨fun hnil => hend _ _ _ _ _ _ _ _ _ _ _ h hrun fun x hx px => hsome ls h.size x hx px hnil, fun i hi => ?_⟩
    obtain ⟨h1, o, ho, _⟩ := mem_ready.1 hi
    obtain ⟨x, hx, rfl⟩ := hp.all i (Array.getElem?_eq_some_iff.1 ho).1
    have hcnt : items.countP (fun y => !(ls.setIfInBounds x.1 true).getD y.1 true) ≤ fuel := by
      have := countP_lt (p := fun y : Item => !ls.getD y.1 true) (q := fun y : Item => !(ls.setIfInBounds x.1 true).getD y.1 true) (fun y hy => ?_) hx (by simp [h1]) (by simp [getD_list h1])
      · omega
      · simp only [getD_list h1] at hy
        by_cases e : y.1 = x.1
        · simp [e] at hy
        · rw [if_neg e] at hy; exact hy
    have hx' := hx
    rw [← h.split] at hx'
    rcases List.mem_append.1 hx' with hd | hd
    · exact h.take hp hN (by simpa using hd) h1 hi fun a' w' γ' hi' => ih _ _ _ _ _ _ _ _ _ _ _ hi' hrun hcnt
    · exact Inv.advance hp hN heqv hcl hi (fun done' rest' F' B' V' T' H' γ' a' w' hi' hrun' => ih _ _ _ _ _ _ _ _ _ _ _ hi' hrun' hcnt) _ _ _ _ _ _ _ h hrun hd

/-- A region that draws its order. -/
theorem drawn_wp (hm : P.follows .mixedOrders = true) {eqv : AVal → AVal → Bool} (heqv : ∀ v w, eqv v w = true → v = w) {cl : AM.Callee} (hcl : CalleeOk P cl) {id : Nat}
    {l : List (AStep × List AStep)} (hc : compDrawn P ops = some l) {T' : Fr} {H' : AHeap} (hrun : runDrawn eqv cl l T H = some (T', H')) (hN : ∀ o ∈ ops, ∀ d, o.dst = some d → d < a.tmps.size)
    (hw : Rw γ H w) (hfr : FrRel γ T a) {Q : Exit → Act → World → Prop} (hQ : ∀ a' w', Fin γ H w a T' H' a' w' → Q .normal a' w') : (Code.region id ops true).wp P Q a w := by
  obtain ⟨items, hp, rfl⟩ := compDrawn_plan hc
  refine wp_region_any hm ?_
  have hls : ∀ i d, (Array.replicate ops.size false).getD i d = if i < ops.size then false else d := fun i d => by
    rw [Array.getD_eq_getD_getElem?, Array.getElem?_replicate]
    split <;> simp
  have hlt : ∀ x ∈ items, x.1 < ops.size := fun x hx => by
    obtain ⟨o, ho, _⟩ := hp.oper x hx
    exact (Array.getElem?_eq_some_iff.1 ho).1
  refine Inv.go hp (N := a.tmps.size) (df := a.defers) (γ0 := γ) (H0 := H) (w0 := w) (T0 := T) (fun x hx d hd => ?_) heqv hcl (fun a' w' γ' k1 k2 k3 k4 k5 => hQ a' w' ⟨γ', k1, k2, k3, k4, k5⟩)
    ops.size _ [] items (fun _ => T) (fun _ => 0) (fun _ => unit) T H γ a _ ?_ hrun ?_
  · obtain ⟨o, ho, hcs, _⟩ := hp.oper x hx
    exact hN o (Array.mem_of_getElem? ho) d (by rw [← (compStep_op hcs).1]; exact hd)
  · exact {
      split := rfl
      size := by simp
      dc := fun x hx hl => by rw [hls, if_pos (hlt x hx)] at hl; cases hl
      notYet := fun x hx => by unfold Pend; rw [hls, if_pos (hlt x hx)]
      rw := hw.drew
      stp := Stp.drew _ _ _
      n := rfl
      df := rfl
      frT := fun t _ => hfr t
      frP := fun t ⟨x, hx, _⟩ => by simp at hx
      old := fun t _ => rfl
      frame := fun x hx => by simp at hx
      val := fun x hx => by simp at hx
      noEff := fun x hx => by simp at hx
      skip := fun x hx => by simp at hx
      look := fun x hx => by simp at hx
      make := fun x hx => by simp at hx
      apart := fun x hx => by simp at hx }
  · exact Nat.le_trans List.countP_le_length (by rw [hp.len]; exact Nat.le_refl _)
end
end Go.AM
