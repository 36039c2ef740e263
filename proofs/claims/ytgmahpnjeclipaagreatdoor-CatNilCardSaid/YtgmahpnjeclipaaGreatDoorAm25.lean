/- The fast machine: code and calls; what it comes to the machine comes to, with enough fuel. No condition. -/
import Derived.Test.YtgmahpnjeclipaaGreatDoorAm24
namespace Go.AM

def stepK : AStep → AM.Callee → Fr → AHeap → (Fr → AHeap → Out) → Out
  | ⟨dst, op, none⟩ => fun cl T H k => opK op cl T H fun v H => putK dst T v fun T => k T H
  | ⟨dst, op, some g⟩ => fun cl T H k =>
    match wanted (some g) T with
    | true => opK op cl T H fun v H => putK dst T v fun T => k T H
    | false => putK dst T unit fun T => k T H

def give2 (r : Option (Fr × AHeap)) (k : Fr → AHeap → Out) : Out :=
  match r with
  | some (T, H) => k T H
  | none => none

theorem stepK_eq (s : AStep) (cl : AM.Callee) (T : Fr) (H : AHeap) (k : Fr → AHeap → Out) : stepK s cl T H k = give2 (runStep cl s T H) k := by
  obtain ⟨dst, op, g⟩ := s
  have key : (opK op cl T H fun v H => putK dst T v fun T => k T H) = give2 (match stepOp (aeval T) cl H op with | some (v, H') => some (aput T dst v, H') | none => none) k := by
    rw [opK_eq]
    cases stepOp (aeval T) cl H op with
    | none => rfl
    | some r => simp only [give, give2, putK_eq]
  cases g with
  | none => simp only [stepK, runStep, wanted]; exact key
  | some g =>
    simp only [stepK, runStep]
    cases wanted (some g) T with
    | true => exact key
    | false => simp only [putK_eq, give2]

def stepsK : List AStep → AM.Callee → Fr → AHeap → (Fr → AHeap → Out) → Out
  | [] => fun _ T H k => k T H
  | s :: l => fun cl T H k => stepK s cl T H fun T H => stepsK l cl T H k

theorem stepsK_eq : ∀ (l : List AStep) (cl : AM.Callee) (T : Fr) (H : AHeap) (k : Fr → AHeap → Out), stepsK l cl T H k = give2 (runSteps cl l T H) k
  | [], _, _, _, _ => rfl
  | s :: l, cl, T, H, k => by
    simp only [stepsK, stepK_eq, runSteps]
    cases runStep cl s T H with
    | none => rfl
    | some r => simp only [give2]; exact stepsK_eq l cl r.1 r.2 k

def drawnK : List (AStep × List AStep) → (AVal → AVal → Bool) → AM.Callee → Fr → AHeap → (Fr → AHeap → Out) → Out
  | [] => fun _ _ T H k => k T H
  | (s, []) :: l => fun eqv cl T H k => stepK s cl T H fun T H => drawnK l eqv cl T H k
  | (s, r :: rs) :: l => fun eqv cl T H k => stepK s cl T H fun T H =>
    match recheck eqv T H (r :: rs) with
    | true => drawnK l eqv cl T H k
    | false => none

theorem drawnK_eq (eqv : AVal → AVal → Bool) : ∀ (l : List (AStep × List AStep)) (cl : AM.Callee) (T : Fr) (H : AHeap) (k : Fr → AHeap → Out), drawnK l eqv cl T H k = give2 (runDrawn eqv cl l T H) k
  | [], _, _, _, _ => rfl
  | (s, []) :: l, cl, T, H, k => by
    simp only [drawnK, stepK_eq, runDrawn]
    cases runStep cl s T H with
    | none => rfl
    | some r => simp only [give2, recheck]; exact drawnK_eq eqv l cl r.1 r.2 k
  | (s, r :: rs) :: l, cl, T, H, k => by
    simp only [drawnK, stepK_eq, runDrawn]
    cases runStep cl s T H with
    | none => rfl
    | some q =>
      obtain ⟨T', H'⟩ := q
      simp only [give2]
      cases recheck eqv T' H' (r :: rs) with
      | true => exact drawnK_eq eqv l cl T' H' k
      | false => rfl

abbrev Kont := AExit → Fr → AHeap → Out

def loopK : Nat → (Fr → AHeap → Kont → Out) → Fr → AHeap → Kont → Out
  | 0 => fun _ _ _ _ => none
  | n + 1 => fun body T H k => body T H fun e T H =>
    match e with
    | .normal => loopK n body T H k
    | .exit i => k (.exit i) T H
    | .ret => k .ret T H

/-- The run of a code. -/
def execK : ACode → (AVal → AVal → Bool) → Nat → AM.Callee → Fr → AHeap → Kont → Out
  | .skip => fun _ _ _ T H k => k .normal T H
  | .ops l => fun _ _ cl T H k => stepsK l cl T H fun T H => k .normal T H
  | .drawn l => fun eqv _ cl T H k => drawnK l eqv cl T H fun T H => k .normal T H
  | .seq a b => fun eqv n cl T H k => execK a eqv n cl T H fun e T H =>
    match e with
    | .normal => execK b eqv n cl T H k
    | .exit i => k (.exit i) T H
    | .ret => k .ret T H
  | .cond c a b => fun eqv n cl T H k =>
    match fetch c T with
    | .prim (.bool true) => execK a eqv n cl T H k
    | .prim (.bool false) => execK b eqv n cl T H k
    | _ => none
  | .block id a => fun eqv n cl T H k => execK a eqv n cl T H fun e T H =>
    match e with
    | .normal => k .normal T H
    | .exit i => match Nat.beq i id with | true => k .normal T H | false => k (.exit i) T H
    | .ret => k .ret T H
  | .loop a => fun eqv n cl T H k => loopK n (execK a eqv n cl) T H k
  | .exit id => fun _ _ _ T H k => k (.exit id) T H
  | .ret => fun _ _ _ T H k => k .ret T H

def argK : List AVal → Nat → Fr → (Fr → Out) → Out
  | [] => fun _ T k => k T
  | v :: l => fun i T k => setP (pathOf (i + 1) i) T (some v) fun T => argK l (i + 1) T k

theorem argK_eq : ∀ (l : List AVal) (i : Nat) (T : Fr) (k : Fr → Out), argK l i T k = k (argFrame l i T)
  | [], _, _, _ => rfl
  | v :: l, i, T, k => by
    simp only [argK, argFrame, aput]
    rw [setP_eq _ _ _ _ _ i.lt_succ_self, argK_eq l]

def callFK (af : AFunc) (eqv : AVal → AVal → Bool) (n : Nat) (cl : AM.Callee) (args : List AVal) (H : AHeap) : Out :=
  argK args 0 .leaf fun T => execK af.code eqv n cl T H fun e T H =>
    match e with
    | .exit _ => none
    | _ =>
      match results T H af.results with
      | some vs => forceV (asOne vs) fun v => some (v, H)
      | none => none

/-- The calls. -/
def callK (eqv : AVal → AVal → Bool) (X : FuncId → Option (List AVal → AHeap → Option (AVal × AHeap))) (A : Tr AFunc) (n : Nat) : Nat → Callee
  | 0 => fun _ _ _ => none
  | d + 1 => fun f args H =>
    match X f with
    | some x => x args H
    | none =>
      match getP (pathOf (f + 1) f) A with
      | some af => callFK af eqv n (callK eqv X A n d) args H
      | none => none

section
variable {eqv : AVal → AVal → Bool} {cl : AM.Callee} {C : Nat → AM.Callee}

/-- What the callee does the others do, with enough fuel. -/
def Late (cl : AM.Callee) (C : Nat → AM.Callee) : Prop := ∀ f args H r, cl f args H = some r → ∃ k, ∀ j, k ≤ j → C j f args H = some r

theorem stepOp_late (hC : Late cl C) {ρ : Operand → AVal} {H : AHeap} {o : AOp} {r : AVal × AHeap} (h : stepOp ρ cl H o = some r) : ∃ k, ∀ j, k ≤ j → stepOp ρ (C j) H o = some r := by
  cases o
  case call f args =>
    simp only [stepOp, AOp.kind, effOp] at h ⊢
    exact hC _ _ _ _ h
  case callV x args =>
    simp only [stepOp, AOp.kind, effOp] at h ⊢
    split at h
    · rename_i f first caps hx
      obtain ⟨k, hk⟩ := hC _ _ _ _ h
      exact ⟨k, fun j hj => hk j hj⟩
    · cases h
  all_goals exact ⟨0, fun j _ => h⟩

theorem runStep_late (hC : Late cl C) {s : AStep} {T : Fr} {H : AHeap} {r : Fr × AHeap} (h : runStep cl s T H = some r) : ∃ k, ∀ j, k ≤ j → runStep (C j) s T H = some r := by
  unfold runStep at h ⊢
  cases hw : wanted s.guard T with
  | false => rw [hw] at h; exact ⟨0, fun j _ => h⟩
  | true =>
    rw [hw] at h
    simp only at h
    split at h <;> try (cases h; done)
    rename_i v H' he
    obtain ⟨k, hk⟩ := stepOp_late hC he
    exact ⟨k, fun j hj => by rw [hk j hj]; exact h⟩

theorem runSteps_late (hC : Late cl C) : ∀ (l : List AStep) {T : Fr} {H : AHeap} {r : Fr × AHeap}, runSteps cl l T H = some r → ∃ k, ∀ j, k ≤ j → runSteps (C j) l T H = some r
  | [], _, _, _, h => ⟨0, fun _ _ => h⟩
  | s :: l, T, H, r, h => by
    simp only [runSteps] at h ⊢
    split at h <;> try (cases h; done)
    rename_i T' H' he
    obtain ⟨k, hk⟩ := runStep_late hC he
    obtain ⟨k2, hk2⟩ := runSteps_late hC l h
    exact ⟨max k k2, fun j hj => by rw [hk j (by omega)]; exact hk2 j (by omega)⟩

theorem runDrawn_late (hC : Late cl C) : ∀ (l : List (AStep × List AStep)) {T : Fr} {H : AHeap} {r : Fr × AHeap}, runDrawn eqv cl l T H = some r → ∃ k, ∀ j, k ≤ j → runDrawn eqv (C j) l T H = some r
  | [], _, _, _, h => ⟨0, fun _ _ => h⟩
  | (s, rs) :: l, T, H, r, h => by
    simp only [runDrawn] at h ⊢
    split at h <;> try (cases h; done)
    rename_i T' H' he
    split at h <;> try (cases h; done)
    rename_i hr
    obtain ⟨k, hk⟩ := runStep_late hC he
    obtain ⟨k2, hk2⟩ := runDrawn_late hC l h
    exact ⟨max k k2, fun j hj => by rw [hk j (by omega)]; simp only [hr]; exact hk2 j (by omega)⟩

theorem execK_comes (hC : Late cl C) : ∀ (c : ACode) (n : Nat) (T : Fr) (H : AHeap) (K : Kont) (r : AVal × AHeap), execK c eqv n cl T H K = some r →
    ∃ e T' H', (∃ k, ∀ j i, k ≤ j → k ≤ i → exec eqv (C i) j c T H = some (e, T', H')) ∧ K e T' H' = some r := by
  intro c
  induction c with
  | skip => exact fun n T H K r h => ⟨.normal, T, H, ⟨1, fun j i hj hi => by obtain ⟨q, rfl⟩ : ∃ q, j = q + 1 := ⟨j - 1, by omega⟩; rfl⟩, h⟩
  | exit id => exact fun n T H K r h => ⟨.exit id, T, H, ⟨1, fun j i hj hi => by obtain ⟨q, rfl⟩ : ∃ q, j = q + 1 := ⟨j - 1, by omega⟩; rfl⟩, h⟩
  | ret => exact fun n T H K r h => ⟨.ret, T, H, ⟨1, fun j i hj hi => by obtain ⟨q, rfl⟩ : ∃ q, j = q + 1 := ⟨j - 1, by omega⟩; rfl⟩, h⟩
  | ops l =>
    intro n T H K r h
    simp only [execK, stepsK_eq] at h
    cases hr : runSteps cl l T H with
    | none => rw [hr] at h; simp [give2] at h
    | some q =>
      rw [hr] at h
      obtain ⟨k, hk⟩ := runSteps_late hC l hr
      refine ⟨.normal, q.1, q.2, ⟨k + 1, fun j i hj hi => ?_⟩, h⟩
      obtain ⟨p, rfl⟩ : ∃ p, j = p + 1 := ⟨j - 1, by omega⟩
      simp only [exec, hk i (by omega)]
  | drawn l =>
    intro n T H K r h
    simp only [execK, drawnK_eq] at h
    cases hr : runDrawn eqv cl l T H with
    | none => rw [hr] at h; simp [give2] at h
    | some q =>
      rw [hr] at h
      obtain ⟨k, hk⟩ := runDrawn_late hC l hr
      refine ⟨.normal, q.1, q.2, ⟨k + 1, fun j i hj hi => ?_⟩, h⟩
      obtain ⟨p, rfl⟩ : ∃ p, j = p + 1 := ⟨j - 1, by omega⟩
      simp only [exec, hk i (by omega)]
  | seq a b iha ihb =>
    intro n T H K r h
    simp only [execK] at h
    obtain ⟨e, T1, H1, ⟨k, hk⟩, h1⟩ := iha _ _ _ _ _ h
    cases e with
    | normal =>
      simp only at h1
      obtain ⟨e2, T2, H2, ⟨k2, hk2⟩, h2⟩ := ihb _ _ _ _ _ h1
      refine ⟨e2, T2, H2, ⟨max k k2 + 1, fun j i hj hi => ?_⟩, h2⟩
      obtain ⟨p, rfl⟩ : ∃ p, j = p + 1 := ⟨j - 1, by omega⟩
      simp only [exec, hk p i (by omega) (by omega)]
      exact hk2 p i (by omega) (by omega)
    | exit id =>
      refine ⟨.exit id, T1, H1, ⟨k + 1, fun j i hj hi => ?_⟩, h1⟩
      obtain ⟨p, rfl⟩ : ∃ p, j = p + 1 := ⟨j - 1, by omega⟩
      simp only [exec, hk p i (by omega) (by omega)]
    | ret =>
      refine ⟨.ret, T1, H1, ⟨k + 1, fun j i hj hi => ?_⟩, h1⟩
      obtain ⟨p, rfl⟩ : ∃ p, j = p + 1 := ⟨j - 1, by omega⟩
      simp only [exec, hk p i (by omega) (by omega)]
  | cond c a b iha ihb =>
    intro n T H K r h
    simp only [execK, fetch_eq] at h
    split at h <;> try (cases h; done)
    · rename_i hc
      obtain ⟨e, T1, H1, ⟨k, hk⟩, h1⟩ := iha _ _ _ _ _ h
      refine ⟨e, T1, H1, ⟨k + 1, fun j i hj hi => ?_⟩, h1⟩
      obtain ⟨p, rfl⟩ : ∃ p, j = p + 1 := ⟨j - 1, by omega⟩
      simp only [exec, hc, hk p i (by omega) (by omega)]
    · rename_i hc
      obtain ⟨e, T1, H1, ⟨k, hk⟩, h1⟩ := ihb _ _ _ _ _ h
      refine ⟨e, T1, H1, ⟨k + 1, fun j i hj hi => ?_⟩, h1⟩
      obtain ⟨p, rfl⟩ : ∃ p, j = p + 1 := ⟨j - 1, by omega⟩
      simp only [exec, hc, hk p i (by omega) (by omega)]
  | block id a iha =>
    intro n T H K r h
    simp only [execK] at h
    obtain ⟨e, T1, H1, ⟨k, hk⟩, h1⟩ := iha _ _ _ _ _ h
    cases e with
    | normal =>
      refine ⟨.normal, T1, H1, ⟨k + 1, fun j i hj hi => ?_⟩, h1⟩
      obtain ⟨p, rfl⟩ : ∃ p, j = p + 1 := ⟨j - 1, by omega⟩
      simp only [exec, hk p i (by omega) (by omega)]
    | exit x =>
      simp only at h1
      cases hx : Nat.beq x id with
      | true =>
        have := Nat.eq_of_beq_eq_true hx
        rw [hx] at h1
        refine ⟨.normal, T1, H1, ⟨k + 1, fun j i hj hi => ?_⟩, h1⟩
        obtain ⟨p, rfl⟩ : ∃ p, j = p + 1 := ⟨j - 1, by omega⟩
        simp only [exec, hk p i (by omega) (by omega), this, if_true]
      | false =>
        have hne : x ≠ id := fun e => by rw [e, Nat.beq_refl] at hx; cases hx
        rw [hx] at h1
        refine ⟨.exit x, T1, H1, ⟨k + 1, fun j i hj hi => ?_⟩, h1⟩
        obtain ⟨p, rfl⟩ : ∃ p, j = p + 1 := ⟨j - 1, by omega⟩
        simp only [exec, hk p i (by omega) (by omega), hne, if_false]
    | ret =>
      refine ⟨.ret, T1, H1, ⟨k + 1, fun j i hj hi => ?_⟩, h1⟩
      obtain ⟨p, rfl⟩ : ∃ p, j = p + 1 := ⟨j - 1, by omega⟩
      simp only [exec, hk p i (by omega) (by omega)]
  | loop a iha =>
    intro n T H K r h
    simp only [execK] at h
    have key : ∀ (m : Nat) (T : Fr) (H : AHeap), loopK m (execK a eqv n cl) T H K = some r →
        ∃ e T' H', (∃ k, ∀ j i, k ≤ j → k ≤ i → exec eqv (C i) j (.loop a) T H = some (e, T', H')) ∧ K e T' H' = some r := by
      intro m
      induction m with
      | zero => intro T H h; simp [loopK] at h
      | succ m ihm =>
        intro T H h
        simp only [loopK] at h
        obtain ⟨e, T1, H1, ⟨k, hk⟩, h1⟩ := iha _ _ _ _ _ h
        cases e with
        | normal =>
          simp only at h1
          obtain ⟨e2, T2, H2, ⟨k2, hk2⟩, h2⟩ := ihm _ _ h1
          refine ⟨e2, T2, H2, ⟨max k k2 + 1, fun j i hj hi => ?_⟩, h2⟩
          obtain ⟨p, rfl⟩ : ∃ p, j = p + 1 := ⟨j - 1, by omega⟩
          simp only [exec, hk p i (by omega) (by omega)]
          exact hk2 p i (by omega) (by omega)
        | exit id =>
          refine ⟨.exit id, T1, H1, ⟨k + 1, fun j i hj hi => ?_⟩, h1⟩
          obtain ⟨p, rfl⟩ : ∃ p, j = p + 1 := ⟨j - 1, by omega⟩
          simp only [exec, hk p i (by omega) (by omega)]
        | ret =>
          refine ⟨.ret, T1, H1, ⟨k + 1, fun j i hj hi => ?_⟩, h1⟩
          obtain ⟨p, rfl⟩ : ∃ p, j = p + 1 := ⟨j - 1, by omega⟩
          simp only [exec, hk p i (by omega) (by omega)]
    exact key n T H h

theorem callFK_comes (hC : Late cl C) {af : AFunc} {n : Nat} {args : List AVal} {H : AHeap} {r : AVal × AHeap} (h : callFK af eqv n cl args H = some r) :
    ∃ k, ∀ j i, k ≤ j → k ≤ i → callF eqv (C i) j af args H = some r := by
  unfold callFK at h
  rw [argK_eq] at h
  obtain ⟨e, T', H', ⟨k, hk⟩, h1⟩ := execK_comes hC _ _ _ _ _ _ h
  refine ⟨k, fun j i hj hi => ?_⟩
  simp only [callF, hk j i hj hi]
  cases e with
  | exit id => simp at h1
  | normal =>
    simp only at h1 ⊢
    split at h1 <;> try (cases h1; done)
    rename_i vs hv
    rw [forceV_eq] at h1
    rw [hv]
    exact h1
  | ret =>
    simp only at h1 ⊢
    split at h1 <;> try (cases h1; done)
    rename_i vs hv
    rw [forceV_eq] at h1
    rw [hv]
    exact h1

theorem callK_late {X : FuncId → Option (List AVal → AHeap → Option (AVal × AHeap))} {A : Tr AFunc} {n : Nat} : ∀ d, Late (callK eqv X A n d) (fun j => call eqv X A.get j d)
  | 0 => fun f args H r h => by simp [callK] at h
  | d + 1 => fun f args H r h => by
    simp only [callK] at h
    split at h
    · rename_i x hx
      exact ⟨0, fun j _ => by simp only [call, hx]; exact h⟩
    · rename_i hx
      rw [getP_eq _ _ _ f.lt_succ_self] at h
      split at h <;> try (cases h; done)
      rename_i af haf
      obtain ⟨k, hk⟩ := callFK_comes (callK_late d) h
      exact ⟨k, fun j hj => by simp only [call, hx, haf]; exact hk j j hj hj⟩

/-- The fast calls are the model's. -/
theorem callK_ok {P : Program} (hm : P.follows .mixedOrders = true) (heqv : ∀ v w, eqv v w = true → v = w) {X : FuncId → Option (List AVal → AHeap → Option (AVal × AHeap))} (hX : AtOnceOk P X)
    {A : Tr AFunc} (hA : TableOk P A.get) (n d : Nat) : CalleeOk P (callK eqv X A n d) := fun f args H v H' h => by
  obtain ⟨k, hk⟩ := callK_late d f args H _ h
  exact call_ok hm heqv hX hA k d f args H v H' (hk k (Nat.le_refl _))
end
end Go.AM
