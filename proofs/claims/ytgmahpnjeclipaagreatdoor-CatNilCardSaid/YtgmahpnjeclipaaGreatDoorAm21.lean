/- Code, functions, calls: what AM does the model does. No condition but that the program draws all orders. -/
import Derived.Test.YtgmahpnjeclipaaGreatDoorAm20
import Derived.LoopN
namespace Go.AM
section
variable {P : Program}

/-- A region that draws no order. -/
theorem steps_wp {ops : Array Oper} {cl : AM.Callee} (hcl : CalleeOk P cl) : ∀ (l : List Oper) (sl : List AStep) {T : Fr} {H : AHeap} {γ : Pl} {a : Act} {w : World} {T' : Fr} {H' : AHeap} {Q : Exit → Act → World → Prop},
    compSteps P ops l = some sl → runSteps cl sl T H = some (T', H') → Rw γ H w → FrRel γ T a → (∀ o ∈ l, ∀ d, o.dst = some d → d < a.tmps.size) →
    (∀ a' w', Fin γ H w a T' H' a' w' → Q .normal a' w') → wpList P ops Q l a w
  | [], sl, T, H, γ, a, w, T', H', Q, hc, hrun, hw, hfr, hN, hQ => by
    simp [compSteps] at hc
    subst hc
    simp only [runSteps, Option.some.injEq, Prod.mk.injEq] at hrun
    obtain ⟨rfl, rfl⟩ := hrun
    exact hQ a w ⟨γ, hfr, hw, Stp.refl _ _ _, rfl, rfl⟩
  | o :: l, sl, T, H, γ, a, w, T', H', Q, hc, hrun, hw, hfr, hN, hQ => by
    simp only [compSteps] at hc
    split at hc <;> try (cases hc; done)
    rename_i s r hs hr
    cases hc
    simp only [runSteps] at hrun
    split at hrun <;> try (cases hrun; done)
    rename_i T1 H1 hstep
    obtain ⟨hdst, hcomp⟩ := compStep_op hs
    have hwant := wanted_same (T := T) (a := a) (γ := γ) hs fun t b _ => hfr t
    have hdN : ∀ d, s.dst = some d → d < a.tmps.size := fun d hd => hN o (by simp) d (by rw [← hdst]; exact hd)
    have key : ∀ (v : AVal) (v' : Value) (w' : World) (γ' : Pl), T1 = aput T s.dst v → rel γ' v v' → Rw γ' H1 w' → Stp γ γ' H H1 w w' → wpList P ops Q l (a.put o.dst v') w' := by
      intro v v' w' γ' e r1 r2 r3
      subst e
      rw [← hdst]
      refine steps_wp hcl l r hr hrun r2 ((hfr.mono r3.ext).put hdN r1) (fun o' ho' d hd => by rw [put_size]; exact hN o' (by simp [ho']) d hd) fun a2 w2 hf => hQ a2 w2 ?_
      exact hf.trans r3 (put_size _ _ _) (by cases s.dst <;> rfl)
    unfold runStep at hstep
    unfold wpList
    rw [hwant]
    cases hwn : wanted s.guard T with
    | false =>
      rw [hwn] at hstep
      simp only [Option.some.injEq, Prod.mk.injEq] at hstep
      obtain ⟨e, rfl⟩ := hstep
      simp only [Bool.false_eq_true, if_false]
      exact key unit undef w γ e.symm (by simp [unit, rel_prim, undef]) hw (Stp.refl _ _ _)
    | true =>
      rw [hwn] at hstep
      simp only at hstep
      split at hstep <;> try (cases hstep; done)
      rename_i v H2 hop
      simp only [Option.some.injEq, Prod.mk.injEq] at hstep
      obtain ⟨e, rfl⟩ := hstep
      simp only [if_true]
      have hc : compOp P o.op = some s.op := by
        rcases hcomp with e | e
        · exact e
        · rw [e, stepOp_fail] at hop; cases hop
      exact .inl (Back.wp (step_run hcl hw hfr.eval hc hop) fun v' w' ⟨γ', r1, r2, r3⟩ => key v v' w' γ' e.symm r1 r2 r3)

def toExit : AExit → Exit
  | .normal => .normal
  | .exit id => .exit id
  | .ret => .ret

theorem dsts_region {N : Nat} {id : Nat} {ops : Array Oper} {b : Bool} (h : dstsBelow N (.region id ops b) = true) {o : Oper} (ho : o ∈ ops) {d : Nat} (hd : o.dst = some d) : d < N := by
  simp only [dstsBelow, List.all_eq_true] at h
  have := h o (by simpa using ho)
  rw [hd] at this
  simpa using this

theorem exec_wp (hm : P.follows .mixedOrders = true) {eqv : AVal → AVal → Bool} (heqv : ∀ v w, eqv v w = true → v = w) {cl : AM.Callee} (hcl : CalleeOk P cl) {N : Nat} : ∀ k : Nat,
    (∀ (c : Code) (ac : ACode) (T : Fr) (H : AHeap) (γ : Pl) (a : Act) (w : World) (e : AExit) (T' : Fr) (H' : AHeap) (Q : Exit → Act → World → Prop),
      comp P c = some ac → dstsBelow N c = true → N ≤ a.tmps.size → exec eqv cl k ac T H = some (e, T', H') → Rw γ H w → FrRel γ T a →
      (∀ a' w', Fin γ H w a T' H' a' w' → Q (toExit e) a' w') → c.wp P Q a w) ∧
    (∀ (c : Code) (ac : ACode) (T : Fr) (H : AHeap) (γ : Pl) (a : Act) (w : World) (e : AExit) (T' : Fr) (H' : AHeap) (Q : Exit → Act → World → Prop),
      comp P c = some ac → dstsBelow N c = true → N ≤ a.tmps.size → exec eqv cl k (.loop ac) T H = some (e, T', H') → Rw γ H w → FrRel γ T a →
      (∀ a' w', Fin γ H w a T' H' a' w' → Q (toExit e) a' w') → Code.rounds P c Q k a w) := by
  intro k
  induction k with
  | zero => exact ⟨fun c ac T H γ a w e T' H' Q hc hd hN h => by simp [exec] at h, fun c ac T H γ a w e T' H' Q hc hd hN h => by simp [exec] at h⟩
  | succ k ih =>
    obtain ⟨ih, ihl⟩ := ih
    have loop : ∀ (c : Code) (ac : ACode) (T : Fr) (H : AHeap) (γ : Pl) (a : Act) (w : World) (e : AExit) (T' : Fr) (H' : AHeap) (Q : Exit → Act → World → Prop),
        comp P c = some ac → dstsBelow N c = true → N ≤ a.tmps.size → exec eqv cl (k + 1) (.loop ac) T H = some (e, T', H') → Rw γ H w → FrRel γ T a →
        (∀ a' w', Fin γ H w a T' H' a' w' → Q (toExit e) a' w') → Code.rounds P c Q (k + 1) a w := by
      intro c ac T H γ a w e T' H' Q hc hd hN h hw hfr hQ
      simp only [exec] at h
      rw [rounds_succ]
      split at h
      · rename_i T1 H1 h1
        refine ih c ac T H γ a w .normal T1 H1 _ hc hd hN h1 hw hfr fun a1 w1 hf => ?_
        obtain ⟨γ1, k1, k2, k3, k4, k5⟩ := hf
        exact ihl c ac T1 H1 γ1 a1 w1 e T' H' Q hc hd (by omega) h k2 k1 fun a2 w2 hf2 => hQ a2 w2 (hf2.trans k3 k4 k5)
      · rename_i hne
        refine ih c ac T H γ a w e T' H' _ hc hd hN h hw hfr fun a1 w1 hf => ?_
        have := hQ a1 w1 hf
        cases e with
        | normal => exact absurd h (hne _ _)
        | exit id => exact this
        | ret => exact this
    refine ⟨fun c ac T H γ a w e T' H' Q hc hd hN h hw hfr hQ => ?_, loop⟩
    have hops : ∀ (l : List AStep), ac = .ops l → ∃ T1 H1, runSteps cl l T H = some (T1, H1) ∧ e = .normal ∧ T' = T1 ∧ H' = H1 := by
      intro l hl
      subst hl
      simp only [exec] at h
      split at h <;> simp at h
      rename_i T1 H1 h1
      obtain ⟨rfl, rfl, rfl⟩ := h
      exact ⟨_, _, h1, rfl, rfl, rfl⟩
    cases c <;> (try simp only [comp] at hc) <;> try (cases hc; done)
    case skip =>
      cases hc
      simp only [exec, Option.some.injEq, Prod.mk.injEq] at h
      obtain ⟨rfl, rfl, rfl⟩ := h
      exact wp_skip (hQ a w ⟨γ, hfr, hw, Stp.refl _ _ _, rfl, rfl⟩)
    case label l =>
      cases hc
      simp only [exec, Option.some.injEq, Prod.mk.injEq] at h
      obtain ⟨rfl, rfl, rfl⟩ := h
      exact wp_label (hQ a w ⟨γ, hfr, hw, Stp.refl _ _ _, rfl, rfl⟩)
    case region id ops b =>
      cases b with
      | false =>
        simp only [comp] at hc
        cases hs : compSteps P ops ops.toList with
        | none => rw [hs] at hc; cases hc
        | some sl =>
          rw [hs] at hc
          cases hc
          obtain ⟨T1, H1, h1, rfl, rfl, rfl⟩ := hops sl rfl
          exact wp_region_list (steps_wp hcl _ sl hs h1 hw hfr (fun o ho d hdd => Nat.lt_of_lt_of_le (dsts_region hd (by simpa using ho) hdd) hN) hQ)
      | true =>
        simp only [comp] at hc
        cases hs : compDrawn P ops with
        | none => rw [hs] at hc; cases hc
        | some sl =>
          rw [hs] at hc
          cases hc
          simp only [exec] at h
          split at h <;> simp at h
          rename_i T1 H1 h1
          obtain ⟨rfl, rfl, rfl⟩ := h
          exact drawn_wp hm heqv hcl hs h1 (fun o ho d hdd => Nat.lt_of_lt_of_le (dsts_region hd ho hdd) hN) hw hfr hQ
    case seq x y =>
      split at hc <;> try (cases hc; done)
      rename_i ax ay hx hy
      cases hc
      simp only [dstsBelow, Bool.and_eq_true] at hd
      simp only [exec] at h
      refine wp_seq ?_
      split at h
      · rename_i T1 H1 h1
        refine ih x ax T H γ a w .normal T1 H1 _ hx hd.1 hN h1 hw hfr fun a1 w1 hf => ?_
        obtain ⟨γ1, k1, k2, k3, k4, k5⟩ := hf
        exact ih y ay T1 H1 γ1 a1 w1 e T' H' Q hy hd.2 (by omega) h k2 k1 fun a2 w2 hf2 => hQ a2 w2 (hf2.trans k3 k4 k5)
      · rename_i hne
        refine ih x ax T H γ a w e T' H' _ hx hd.1 hN h hw hfr fun a1 w1 hf => ?_
        have := hQ a1 w1 hf
        cases e with
        | normal => exact absurd h (hne _ _)
        | exit id => exact this
        | ret => exact this
    case cond c x y =>
      split at hc <;> try (cases hc; done)
      rename_i ax ay hx hy
      cases hc
      simp only [dstsBelow, Bool.and_eq_true] at hd
      simp only [exec] at h
      have hr := hfr.eval c
      split at h <;> try (cases h; done)
      · rename_i he
        rw [he, rel_prim] at hr
        exact wp_cond_true hr (ih x ax T H γ a w e T' H' Q hx hd.1 hN h hw hfr hQ)
      · rename_i he
        rw [he, rel_prim] at hr
        exact wp_cond_false hr (ih y ay T H γ a w e T' H' Q hy hd.2 hN h hw hfr hQ)
    case block id x =>
      obtain ⟨ax, hx, rfl⟩ := Option.map_eq_some_iff.1 hc
      simp only [dstsBelow] at hd
      simp only [exec] at h
      refine wp_block ?_
      split at h
      · rename_i i T1 H1 h1
        split at h
        · rename_i hi
          simp only [Option.some.injEq, Prod.mk.injEq] at h
          obtain ⟨rfl, rfl, rfl⟩ := h
          refine ih x ax T H γ a w (.exit i) T1 H1 _ hx hd hN h1 hw hfr fun a1 w1 hf => ?_
          simp only [toExit, Exit.inBlock, hi, if_true]
          exact hQ a1 w1 hf
        · rename_i hi
          simp only [Option.some.injEq, Prod.mk.injEq] at h
          obtain ⟨rfl, rfl, rfl⟩ := h
          refine ih x ax T H γ a w (.exit i) T1 H1 _ hx hd hN h1 hw hfr fun a1 w1 hf => ?_
          simp only [toExit, Exit.inBlock, hi, if_false]
          exact hQ a1 w1 hf
      · rename_i hne
        refine ih x ax T H γ a w e T' H' _ hx hd hN h hw hfr fun a1 w1 hf => ?_
        have := hQ a1 w1 hf
        cases e with
        | normal => exact this
        | exit id => exact absurd h (hne _ _ _)
        | ret => exact this
    case loop x =>
      obtain ⟨ax, hx, rfl⟩ := Option.map_eq_some_iff.1 hc
      simp only [dstsBelow] at hd
      exact wp_loop_rounds (k + 1) (loop x ax T H γ a w e T' H' Q hx hd hN h hw hfr hQ)
    case exit id =>
      cases hc
      simp only [exec, Option.some.injEq, Prod.mk.injEq] at h
      obtain ⟨rfl, rfl, rfl⟩ := h
      exact wp_exit (hQ a w ⟨γ, hfr, hw, Stp.refl _ _ _, rfl, rfl⟩)
    case ret =>
      cases hc
      simp only [exec, Option.some.injEq, Prod.mk.injEq] at h
      obtain ⟨rfl, rfl, rfl⟩ := h
      exact wp_ret (hQ a w ⟨γ, hfr, hw, Stp.refl _ _ _, rfl, rfl⟩)
    case refuse s =>
      cases hc
      exfalso
      simp [exec, runSteps, runStep, wanted, stepOp, AOp.kind, pureOp] at h

theorem results_list {a : Act} {T : Fr} {H : AHeap} {γ : Pl} {w : World} (hw : Rw γ H w) (hfr : FrRel γ T a) {f : ResultVar → Sem Value} (h1 : ∀ t, f (.tmp t) = pure (a.tmps.getD t undef))
    (h2 : ∀ c t, f (.cell c t) = (do loadVar t (← asAddr (a.tmps.getD c undef)))) : ∀ {l : List ResultVar} {rs : List ARes} {vs : List AVal}, compRes P l = some rs → AM.results T H rs = some vs →
    ∃ vs', (l.mapM f).run P w = .ok vs' w ∧ rels γ vs vs'
  | [], rs, vs, hc, hr => by
    simp [compRes] at hc
    subst hc
    simp [AM.results] at hr
    subst hr
    exact ⟨[], by simp, by simp [rels]⟩
  | .tmp t :: l, rs, vs, hc, hr => by
    simp only [compRes] at hc
    obtain ⟨r, hl, rfl⟩ := Option.map_eq_some_iff.1 hc
    simp only [AM.results, result] at hr
    split at hr <;> try (cases hr; done)
    rename_i vs1 hv
    cases hr
    obtain ⟨vs', g1, g2⟩ := results_list hw hfr h1 h2 hl hv
    refine ⟨a.tmps.getD t undef :: vs', ?_, ?_⟩
    · simp [List.mapM_cons, h1, g1]
    · simp only [rels]
      exact ⟨hfr t, g2⟩
  | .cell c t :: l, rs, vs, hc, hr => by
    simp only [compRes] at hc
    split at hc <;> try (cases hc; done)
    rename_i n r hn hl
    cases hc
    simp only [AM.results, result] at hr
    split at hr <;> try (cases hr; done)
    rename_i v hv0
    split at hr <;> try (cases hr; done)
    rename_i vs1 hv
    cases hr
    obtain ⟨vs', g1, g2⟩ := results_list hw hfr h1 h2 hl hv
    obtain ⟨v', e, r⟩ := aload_run hw hn (hfr c) hv0
    have hp : ∃ A, a.tmps.getD c undef = .pointer (some A) := by
      have hr := hfr c
      unfold aload at hv0
      split at hv0 <;> try (cases hv0; done)
      rename_i b off hsl
      rw [hsl] at hr
      simp only [rel] at hr
      obtain ⟨_, _, _, _, e⟩ := hr
      exact ⟨_, e⟩
    obtain ⟨A, hA⟩ := hp
    rw [hA] at e
    have e2 : (loadVar t A).run P w = .ok v' w := by simpa [Instr.loadAt, Instr.sureAddr] using e
    refine ⟨v' :: vs', ?_, ?_⟩
    · simp [List.mapM_cons, h2, hA, asAddr, e2, g1]
    · simp only [rels]
      exact ⟨r, g2⟩

theorem results_run {fn : Func} {a : Act} {T : Fr} {H : AHeap} {γ : Pl} {w : World} (hw : Rw γ H w) (hfr : FrRel γ T a) {rs : List ARes} {vs : List AVal}
    (hc : compRes P fn.results.toList = some rs) (hr : AM.results T H rs = some vs) : ∃ v', (Go.results fn a.tmps).run P w = .ok v' w ∧ rel γ (asOne vs) v' := by
  unfold Go.results
  rw [Array.mapM_eq_mapM_toList]
  obtain ⟨vs', g1, g2⟩ := results_list hw hfr (f := fun | .tmp t => pure (a.tmps.getD t undef) | .cell c t => do loadVar t (← asAddr (a.tmps.getD c undef))) (fun _ => rfl) (fun _ _ => rfl) hc hr
  refine ⟨if h : vs'.toArray.size = 1 then vs'.toArray[0] else .tuple vs'.toArray, ?_, ?_⟩
  · rw [bind_map_left, Sem.run_bind]
    refine (congrArg (fun r => Result.andThen r _) g1).trans ?_
    simp
  · have hlen := rels_length g2
    match vs, vs', g2, hlen with
    | [v], [v'], g2, _ => simpa [asOne, rels] using g2
    | [], [], g2, _ => simp [asOne, rel, rels]
    | v :: u :: l, v' :: u' :: l', g2, _ =>
      simp only [asOne, List.size_toArray, List.length_cons, rel]
      rw [dif_neg (by omega)]
      exact ⟨_, rfl, g2⟩

theorem slot_argFrame : ∀ (l : List AVal) (i : Nat) (T : Fr) (t : Nat), slot (argFrame l i T) t = if i ≤ t ∧ t < i + l.length then l.getD (t - i) unit else slot T t
  | [], i, T, t => by simp only [argFrame, List.length_nil]; rw [if_neg (by omega)]
  | v :: l, i, T, t => by
    rw [argFrame, slot_argFrame l (i + 1), slot_aput]
    simp only [List.length_cons]
    by_cases h : t = i
    · subst h
      rw [if_neg (by omega), if_pos rfl, if_pos (by omega)]
      simp
    · by_cases h2 : i + 1 ≤ t ∧ t < i + 1 + l.length
      · rw [if_pos h2, if_pos (by omega), show t - i = (t - (i + 1)) + 1 by omega]
        rfl
      · rw [if_neg h2, if_neg h, if_neg (by omega)]

/-- A function, of what its callees do. -/
theorem callF_run (hm : P.follows .mixedOrders = true) {eqv : AVal → AVal → Bool} (heqv : ∀ v w, eqv v w = true → v = w) {cl : AM.Callee} (hcl : CalleeOk P cl) {f : FuncId} {fn : Func} {af : AFunc}
    (hf : P.funcs[f]? = some fn) (hname : (fn.name == "runtime.NumGoroutine") = false) (hc : compFunc P fn = some af) {fuel : Nat} {args : List AVal} {H H' : AHeap} {v : AVal}
    (h : callF eqv cl fuel af args H = some (v, H')) {γ : Pl} {w : World} {args' : Array Value} (hw : Rw γ H w) (ha : rels γ args args'.toList) :
    Back P (Post γ H H' v w) ((callFunc f args').run P w) := by
  unfold compFunc at hc
  split at hc <;> try (cases hc; done)
  rename_i c hb
  split at hc <;> try (cases hc; done)
  rename_i ac rs hcomp hres
  split at hc <;> simp at hc
  rename_i hd
  simp only [Bool.and_eq_true] at hd
  subst hc
  have hrun : (callFunc f args').run P w = .ok (.enter f args') w := by
    have h1 : fn.name ≠ "runtime.NumGoroutine" := by simpa using hname
    simp [callFunc, hf, h1, hb]
  rw [hrun]
  simp only [Back]
  have hfr : FrRel γ (argFrame args 0 .leaf) { tmps := args' ++ Array.replicate (fn.ntmps - args'.size) undef, defers := [] } := by
    intro t
    rw [slot_argFrame]
    have hl := rels_length ha
    simp only [Array.length_toList] at hl
    simp only [Array.getD_eq_getD_getElem?, Array.getElem?_append, Array.getElem?_replicate]
    by_cases ht : t < args.length
    · rw [if_pos ⟨by omega, by omega⟩, if_pos (by omega)]
      obtain ⟨v', e, r⟩ := rels_get ha t args[t] (List.getElem?_eq_getElem ht)
      rw [Array.getElem?_toList] at e
      rw [e]
      simpa [List.getD_eq_getElem?_getD, ht] using r
    · rw [if_neg (by omega), if_neg (by omega)]
      have : slot (.leaf : Fr) t = unit := rfl
      rw [this]
      split <;> simp [unit, rel_prim, undef]
  have hN : fn.ntmps ≤ ({ tmps := args' ++ Array.replicate (fn.ntmps - args'.size) undef, defers := [] } : Act).tmps.size := by simp; omega
  have hend : ∀ (e : AExit) (T : Fr) (H1 : AHeap), exec eqv cl fuel ac (argFrame args 0 .leaf) H = some (e, T, H1) → (e = .normal ∨ e = .ret) → (∃ vs, AM.results T H1 rs = some vs ∧ asOne vs = v ∧ H1 = H') →
      Calls P f args' w fun e w'' => match e with | .returned v' => Post γ H H' v w v' w'' | _ => False := by
    intro e T H1 hex he ⟨vs, hvs, hv, hH⟩
    subst hH
    subst hv
    refine calls_of_wp hf hb ((exec_wp hm heqv hcl fuel).1 c ac _ H γ _ w e T H1 _ hcomp hd.1 hN hex hw hfr fun a' w' hfin => ?_)
    obtain ⟨γ', k1, k2, k3, k4, k5⟩ := hfin
    obtain ⟨v', g1, g2⟩ := results_run (fn := fn) k2 k1 hres hvs
    have : bodyPost P fn (fun e w'' => match e with | .returned v' => Post γ H H1 (asOne vs) w v' w'' | _ => False) .normal a' w' := ⟨k5, v', g1, γ', g2, k2, k3⟩
    rcases he with rfl | rfl
    · exact this
    · exact this
  unfold callF at h
  simp only at h
  split at h <;> try (cases h; done)
  · rename_i T H1 hex
    split at h <;> simp at h
    rename_i vs hvs
    exact hend _ _ _ hex (.inl rfl) ⟨vs, hvs, h⟩
  · rename_i T H1 hex
    split at h <;> simp at h
    rename_i vs hvs
    exact hend _ _ _ hex (.inr rfl) ⟨vs, hvs, h⟩

/-- A table of compiled functions tells of the program. -/
def TableOk (P : Program) (A : FuncId → Option AFunc) : Prop :=
  ∀ f af, A f = some af → ∃ fn, P.funcs[f]? = some fn ∧ (fn.name == "runtime.NumGoroutine") = false ∧ compFunc P fn = some af

/-- What is answered at once is what the model's functions do. -/
def AtOnceOk (P : Program) (X : FuncId → Option (List AVal → AHeap → Option (AVal × AHeap))) : Prop :=
  ∀ f x, X f = some x → ∀ args H v H', x args H = some (v, H') → ∀ γ w (args' : Array Value), Rw γ H w → rels γ args args'.toList →
    Back P (Post γ H H' v w) ((callFunc f args').run P w)

/-- Calls, as deep as is wished. -/
theorem call_ok (hm : P.follows .mixedOrders = true) {eqv : AVal → AVal → Bool} (heqv : ∀ v w, eqv v w = true → v = w) {X : FuncId → Option (List AVal → AHeap → Option (AVal × AHeap))} (hX : AtOnceOk P X)
    {A : FuncId → Option AFunc} (hA : TableOk P A) (fuel : Nat) : ∀ depth : Nat, CalleeOk P (call eqv X A fuel depth)
  | 0 => fun f args H v H' h => by simp [call] at h
  | n + 1 => fun f args H v H' h γ w args' hw ha => by
    simp only [call] at h
    split at h
    · rename_i x hx
      exact hX f x hx args H v H' h γ w args' hw ha
    · split at h <;> try (cases h; done)
      rename_i af haf
      obtain ⟨fn, h1, h2, h3⟩ := hA f af haf
      exact callF_run hm heqv (call_ok hm heqv hX hA fuel n) h1 h2 h3 h hw ha
end
end Go.AM
