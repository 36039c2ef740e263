/- Regions that draw their order: what holds on the way, and how it is kept. No condition. -/
import Derived.Test.YtgmahpnjeclipaaGreatDoorAm17
namespace Go.AM

theorem Plan.any {P : Program} {ops : Array Oper} {items : List Item} (hp : Plan P ops items) {x y : Item} (hx : x ∈ items) (hy : y ∈ items) :
    x = y ∨ PairS x y ∨ PairS y x := by
  rcases planOk_any hp.ok x hx y hy with h | h | h
  · exact .inl h
  · exact .inr (.inl (pairOk_spec h))
  · exact .inr (.inr (pairOk_spec h))

theorem Plan.uniq {P : Program} {ops : Array Oper} {items : List Item} (hp : Plan P ops items) {x y : Item} (hx : x ∈ items) (hy : y ∈ items) (h : x.1 = y.1) : x = y := by
  rcases hp.any hx hy with e | e | e
  · exact e
  · exact absurd h e.ne
  · exact absurd h.symm e.ne

theorem Plan.dst {P : Program} {ops : Array Oper} {items : List Item} (hp : Plan P ops items) {x y : Item} (hx : x ∈ items) (hy : y ∈ items) {d : Nat}
    (h1 : x.2.1.dst = some d) (h2 : y.2.1.dst = some d) : x = y := by
  rcases hp.any hx hy with e | e | e
  · exact e
  · exact absurd h2 (e.dst d h1)
  · exact absurd h1 (e.dst d h2)

theorem Plan.self {P : Program} {ops : Array Oper} {items : List Item} (hp : Plan P ops items) {x : Item} (hx : x ∈ items) :
    x.2.2.testBit x.1 = false ∧ ∀ d, x.2.1.dst = some d → d ∉ slotsOf x.2.1 := selfOk_spec (planOk_self hp.ok x hx)

/-- Not done yet, in the model. -/
def Pend (ls : Array Bool) (x : Item) : Prop := ls.getD x.1 true = false

structure Inv (ops : Array Oper) (items : List Item) (T0 : Fr) (γ0 : Pl) (H0 : AHeap) (w0 : World) (N : Nat) (df : List Deferred)
    (done rest : List Item) (ls : Array Bool) (F : Nat → Fr) (B : Nat → Nat) (V : Nat → AVal) (T : Fr) (H : AHeap) (γ : Pl) (a : Act) (w : World) : Prop where
  split : done.reverse ++ rest = items
  size : ls.size = ops.size
  dc : ∀ x ∈ items, ls.getD x.1 false = true → ∀ j, x.2.2.testBit j = true → ls.getD j false = true
  notYet : ∀ x ∈ rest, Pend ls x
  rw : Rw γ H w
  stp : Stp γ0 γ H0 H w0 w
  n : a.tmps.size = N
  df : a.defers = df
  frT : ∀ t, (∀ x ∈ done, Pend ls x → x.2.1.dst ≠ some t) → rel γ (slot T t) (a.tmps.getD t undef)
  frP : ∀ t, (∃ x ∈ done, Pend ls x ∧ x.2.1.dst = some t) → rel γ (slot T0 t) (a.tmps.getD t undef)
  old : ∀ t, (∀ x ∈ done, x.2.1.dst ≠ some t) → slot T t = slot T0 t
  frame : ∀ x ∈ done, Pend ls x → ∀ t ∈ slotsOf x.2.1,
    ((∃ y ∈ done, y.2.1.dst = some t ∧ x.2.2.testBit y.1 = true) → slot (F x.1) t = slot T t) ∧
    ((∀ y ∈ done, y.2.1.dst = some t → x.2.2.testBit y.1 = false) → slot (F x.1) t = slot T0 t)
  val : ∀ x ∈ done, Pend ls x → ∀ d, x.2.1.dst = some d → slot T d = V x.1
  noEff : ∀ x ∈ done, Pend ls x → isEff x.2.1 = false
  skip : ∀ x ∈ done, Pend ls x → wanted x.2.1.guard (F x.1) = false → V x.1 = unit
  look : ∀ x ∈ done, Pend ls x → wanted x.2.1.guard (F x.1) = true → x.2.1.op.kind ≠ 2 → lookOp (aeval (F x.1)) H x.2.1.op = some (V x.1)
  make : ∀ x ∈ done, Pend ls x → wanted x.2.1.guard (F x.1) = true → x.2.1.op.kind = 2 →
    ∃ ob f, makeOp (aeval (F x.1)) x.2.1.op = some (ob, f) ∧ V x.1 = f (B x.1) ∧ γ (B x.1) = none ∧ H0.n ≤ B x.1 ∧ H.get (B x.1) = some ob
  apart : ∀ x ∈ done, ∀ y ∈ done, Pend ls x → Pend ls y → wanted x.2.1.guard (F x.1) = true → wanted y.2.1.guard (F y.1) = true →
    x.2.1.op.kind = 2 → y.2.1.op.kind = 2 → x.1 ≠ y.1 → B x.1 ≠ B y.1

section
variable {P : Program} {ops : Array Oper} {items : List Item} {T0 : Fr} {γ0 : Pl} {H0 : AHeap} {w0 : World} {N : Nat} {df : List Deferred}
    {done rest : List Item} {ls : Array Bool} {F : Nat → Fr} {B : Nat → Nat} {V : Nat → AVal} {T : Fr} {H : AHeap} {γ : Pl} {a : Act} {w : World}

theorem Inv.memD (h : Inv ops items T0 γ0 H0 w0 N df done rest ls F B V T H γ a w) {x : Item} (hx : x ∈ done) : x ∈ items := by
  rw [← h.split]; simp [hx]
theorem Inv.memR (h : Inv ops items T0 γ0 H0 w0 N df done rest ls F B V T H γ a w) {x : Item} (hx : x ∈ rest) : x ∈ items := by
  rw [← h.split]; simp [hx]

theorem Inv.pair (hp : Plan P ops items) (h : Inv ops items T0 γ0 H0 w0 N df done rest ls F B V T H γ a w) {x y : Item} (hx : x ∈ done) (hy : y ∈ rest) : PairS x y := by
  have hx' : x ∈ done.reverse := by simpa using hx
  obtain ⟨l1, l2, e⟩ := List.append_of_mem hx'
  have hok := hp.ok
  rw [← h.split, e, List.append_assoc, List.cons_append] at hok
  exact pairOk_spec (planOk_pair hok y (by simp [hy]))

/-- The machine's operation comes; the model's waits. -/
theorem Inv.delay (hp : Plan P ops items) {x : Item} (h : Inv ops items T0 γ0 H0 w0 N df done (x :: rest) ls F B V T H γ a w) (hne : isEff x.2.1 = false) {cl : AM.Callee} {T' : Fr} {H' : AHeap}
    (hrun : runStep cl x.2.1 T H = some (T', H')) : ∃ F' B' V', Inv ops items T0 γ0 H0 w0 N df (x :: done) rest ls F' B' V' T' H' γ a w := by
  have hxI := h.memR (x := x) (by simp)
  have hself := hp.self hxI
  have hpair : ∀ y ∈ done, PairS y x := fun y hy => h.pair hp hy (by simp)
  have hneq : ∀ y ∈ done, y.1 ≠ x.1 := fun y hy => (hpair y hy).ne
  -- what is run
  have hv : ∃ v, T' = aput T x.2.1.dst v ∧ (H' = H ∨ ∃ ob, H' = H.push ob) ∧ (wanted x.2.1.guard T = false → v = unit) ∧
      (wanted x.2.1.guard T = true → x.2.1.op.kind ≠ 2 → H' = H ∧ lookOp (aeval T) H x.2.1.op = some v) ∧
      (wanted x.2.1.guard T = true → x.2.1.op.kind = 2 → ∃ ob f, makeOp (aeval T) x.2.1.op = some (ob, f) ∧ v = f H.n ∧ H' = H.push ob) := by
    have hk3 : x.2.1.op.kind ≠ 3 := by intro e; simp [isEff, e] at hne
    have hle := kind_le x.2.1.op
    unfold runStep at hrun
    cases hw : wanted x.2.1.guard T with
    | false =>
      rw [hw] at hrun
      simp only [Option.some.injEq, Prod.mk.injEq] at hrun
      obtain ⟨rfl, rfl⟩ := hrun
      exact ⟨unit, rfl, .inl rfl, fun _ => rfl, fun e => (by cases e), fun e => (by cases e)⟩
    | true =>
      rw [hw] at hrun
      simp only at hrun
      unfold stepOp at hrun
      have hk4 : x.2.1.op.kind = 0 ∨ x.2.1.op.kind = 1 ∨ x.2.1.op.kind = 2 := by omega
      rcases hk4 with hk | hk | hk
      · rw [hk] at hrun
        simp only at hrun
        cases hq : pureOp (aeval T) x.2.1.op with
        | none => rw [hq] at hrun; simp at hrun
        | some v =>
          rw [hq] at hrun
          simp only [Option.map_some, Option.some.injEq, Prod.mk.injEq] at hrun
          obtain ⟨rfl, rfl⟩ := hrun
          exact ⟨v, rfl, .inl rfl, fun e => (by cases e), fun _ _ => ⟨rfl, by rw [lookOp, hk]; exact hq⟩, fun _ e => by omega⟩
      · rw [hk] at hrun
        simp only at hrun
        cases hq : readOp (aeval T) H x.2.1.op with
        | none => rw [hq] at hrun; simp at hrun
        | some v =>
          rw [hq] at hrun
          simp only [Option.map_some, Option.some.injEq, Prod.mk.injEq] at hrun
          obtain ⟨rfl, rfl⟩ := hrun
          exact ⟨v, rfl, .inl rfl, fun e => (by cases e), fun _ _ => ⟨rfl, by rw [lookOp, hk]; exact hq⟩, fun _ e => by omega⟩
      · rw [hk] at hrun
        simp only at hrun
        cases hq : makeOp (aeval T) x.2.1.op with
        | none => rw [hq] at hrun; simp at hrun
        | some obf =>
          obtain ⟨ob, f⟩ := obf
          rw [hq] at hrun
          simp only [Option.some.injEq, Prod.mk.injEq] at hrun
          obtain ⟨rfl, rfl⟩ := hrun
          exact ⟨f H.n, rfl, .inr ⟨ob, rfl⟩, fun e => (by cases e), fun _ e => absurd hk e, fun _ _ => ⟨ob, f, rfl, rfl, rfl⟩⟩
  obtain ⟨v, rfl, hH, hv0, hv1, hv2⟩ := hv
  have hput : ∀ t, x.2.1.dst ≠ some t → slot (aput T x.2.1.dst v) t = slot T t := fun t ht => by
    cases hd : x.2.1.dst with
    | none => rfl
    | some d => rw [slot_aput, if_neg]; rintro rfl; exact ht hd
  have hputs : ∀ d, x.2.1.dst = some d → slot (aput T x.2.1.dst v) d = v := fun d hd => by rw [hd, slot_aput, if_pos rfl]
  have hmono : ∀ b o, H.get b = some o → H'.get b = some o := fun b o hb => by
    rcases hH with rfl | ⟨ob, rfl⟩
    · exact hb
    · rw [AHeap.get_push, if_neg, hb]
      rintro rfl
      rw [h.rw.fresh _ (Nat.le_refl _)] at hb
      cases hb
  have hrw : Rw γ H' w := by
    rcases hH with rfl | ⟨ob, rfl⟩
    · exact h.rw
    · exact h.rw.pushOut ob
  have hstp : Stp γ γ H H' w w := by
    rcases hH with rfl | ⟨ob, rfl⟩
    · exact Stp.refl _ _ _
    · refine ⟨Ext.refl γ, fun _ _ h => .inl h, by simp, fun b _ hb => ?_, rfl, rfl, rfl, Nat.le_refl _, fun _ _ _ => rfl, fun b p e hb => ?_, fun _ _ _ _ => rfl⟩
      · rw [AHeap.get_push, if_neg (by omega)]
      · have := h.rw.dom b p e
        rw [AHeap.get_push, if_neg (by omega)]
        exact hb
  refine ⟨fun j => if j = x.1 then T else F j, fun j => if j = x.1 then H.n else B j, fun j => if j = x.1 then v else V j, ?_⟩
  have hF : ∀ y ∈ done, (if y.1 = x.1 then T else F y.1) = F y.1 := fun y hy => if_neg (hneq y hy)
  have hV : ∀ y ∈ done, (if y.1 = x.1 then v else V y.1) = V y.1 := fun y hy => if_neg (hneq y hy)
  have hB : ∀ y ∈ done, (if y.1 = x.1 then H.n else B y.1) = B y.1 := fun y hy => if_neg (hneq y hy)
  refine {
    split := by rw [← h.split]; simp
    size := h.size
    dc := h.dc
    notYet := fun y hy => h.notYet y (by simp [hy])
    rw := hrw
    stp := h.stp.trans hstp
    n := h.n
    df := h.df
    frT := fun t ht => ?_
    frP := fun t ht => ?_
    old := fun t ht => ?_
    frame := fun y hy hpe t ht => ?_
    val := fun y hy hpe d hd => ?_
    noEff := fun y hy hpe => ?_
    skip := fun y hy hpe hwn => ?_
    look := fun y hy hpe hwn hk => ?_
    make := fun y hy hpe hwn hk => ?_
    apart := fun y hy z hz py pz wy wz ky kz hne => ?_ }
  · have hx := ht x (by simp) (h.notYet x (by simp))
    rw [hput t hx]
    exact h.frT t fun y hy => ht y (by simp [hy])
  · obtain ⟨y, hy, py, hd⟩ := ht
    rcases List.mem_cons.1 hy with rfl | hyd
    · have h1 : slot T t = slot T0 t := h.old t fun z hz e => (hpair z hz).dst t e hd
      rw [← h1]
      exact h.frT t fun z hz _ e => (hpair z hz).dst t e hd
    · exact h.frP t ⟨y, hyd, py, hd⟩
  · rw [hput t (ht x (by simp))]
    exact h.old t fun y hy => ht y (by simp [hy])
  · rcases List.mem_cons.1 hy with rfl | hyd
    · simp only [if_true]
      have hyt : y.2.1.dst ≠ some t := fun e => hself.2 t e ht
      rw [hput t hyt]
      refine ⟨fun _ => rfl, fun hall => h.old t fun z hz e => ?_⟩
      have h1 := (hpair z hz).wr t e ht
      rw [hall z (by simp [hz]) e] at h1
      cases h1
    · rw [hF y hyd]
      obtain ⟨f1, f2⟩ := h.frame y hyd hpe t ht
      by_cases hxt : x.2.1.dst = some t
      · refine ⟨fun ⟨z, hz, ez, bz⟩ => ?_, fun hall => f2 fun z hz e => hall z (by simp [hz]) e⟩
        rcases List.mem_cons.1 hz with rfl | hzd
        · rw [(hpair y hyd).nb] at bz; cases bz
        · exact absurd hxt ((hpair z hzd).dst t ez)
      · rw [hput t hxt]
        refine ⟨fun ⟨z, hz, ez, bz⟩ => ?_, fun hall => f2 fun z hz e => hall z (by simp [hz]) e⟩
        rcases List.mem_cons.1 hz with rfl | hzd
        · exact absurd ez hxt
        · exact f1 ⟨z, hzd, ez, bz⟩
  · rcases List.mem_cons.1 hy with rfl | hyd
    · simp only [if_true]
      exact hputs d hd
    · rw [hV y hyd, hput d fun e => (hpair y hyd).dst d hd e]
      exact h.val y hyd hpe d hd
  · rcases List.mem_cons.1 hy with rfl | hyd
    · exact hne
    · exact h.noEff y hyd hpe
  · rcases List.mem_cons.1 hy with rfl | hyd
    · simp only [if_true] at hwn ⊢
      exact hv0 hwn
    · rw [hF y hyd] at hwn
      rw [hV y hyd]
      exact h.skip y hyd hpe hwn
  · rcases List.mem_cons.1 hy with rfl | hyd
    · simp only [if_true] at hwn ⊢
      obtain ⟨rfl, hl⟩ := hv1 hwn hk
      exact hl
    · rw [hF y hyd] at hwn ⊢
      rw [hV y hyd]
      exact lookOp_mono hmono (h.look y hyd hpe hwn hk)
  · rcases List.mem_cons.1 hy with rfl | hyd
    · simp only [if_true] at hwn ⊢
      obtain ⟨ob, f, m1, m2, rfl⟩ := hv2 hwn hk
      refine ⟨ob, f, m1, m2, ?_, h.stp.hn, by rw [AHeap.get_push, if_pos rfl]⟩
      cases eg : γ H.n with
      | none => rfl
      | some p => have := h.rw.dom _ _ eg; omega
    · rw [hF y hyd] at hwn ⊢
      rw [hV y hyd, hB y hyd]
      obtain ⟨ob, f, m1, m2, m3, m4, m5⟩ := h.make y hyd hpe hwn hk
      exact ⟨ob, f, m1, m2, m3, m4, hmono _ _ m5⟩
  · have hlt : ∀ y ∈ done, Pend ls y → wanted y.2.1.guard (F y.1) = true → y.2.1.op.kind = 2 → B y.1 < H.n := fun y hy py wy ky => by
      obtain ⟨ob, f, m1, m2, m3, m4, m5⟩ := h.make y hy py wy ky
      rcases Nat.lt_or_ge (B y.1) H.n with h1 | h1
      · exact h1
      · rw [h.rw.fresh _ h1] at m5; cases m5
    rcases List.mem_cons.1 hy with ey | hyd
    · rcases List.mem_cons.1 hz with ez | hzd
      · exact absurd (by rw [ey, ez]) hne
      · rw [hF z hzd] at wz
        rw [hB z hzd, if_pos (by rw [ey])]
        have := hlt z hzd pz wz kz
        omega
    · rcases List.mem_cons.1 hz with ez | hzd
      · rw [hF y hyd] at wy
        rw [hB y hyd, if_pos (by rw [ez])]
        have := hlt y hyd py wy ky
        omega
      · rw [hF y hyd] at wy
        rw [hF z hzd] at wz
        rw [hB y hyd, hB z hzd]
        exact h.apart y hyd z hzd py pz wy wz ky kz hne
end
end Go.AM
