/- Calls without bounds, and a logic of runs of the abstract machine. No condition. -/
import Derived.Test.YtgmahpnjeclipaaGreatDoorAm21
namespace Go.AM

abbrev Eqv := AVal → AVal → Bool
abbrev Ans := FuncId × List AVal × AHeap × (AVal × AHeap)

/-- What is so for whatever callee answers some calls as this one. -/
def Sup (cl : Callee) (G : Callee → Prop) : Prop :=
  ∃ S : List Ans, (∀ s ∈ S, cl s.1 s.2.1 s.2.2.1 = some s.2.2.2) ∧ ∀ C : Callee, (∀ s ∈ S, C s.1 s.2.1 s.2.2.1 = some s.2.2.2) → G C

theorem Sup.triv {cl : Callee} {G : Callee → Prop} (h : ∀ C, G C) : Sup cl G := ⟨[], by simp, fun C _ => h C⟩

theorem Sup.and {cl : Callee} {G G' R : Callee → Prop} (h : Sup cl G) (h' : Sup cl G') (k : ∀ C, G C → G' C → R C) : Sup cl R := by
  obtain ⟨S, a, b⟩ := h
  obtain ⟨S', a', b'⟩ := h'
  refine ⟨S ++ S', fun s hs => ?_, fun C hC => k C (b C fun s hs => hC s (by simp [hs])) (b' C fun s hs => hC s (by simp [hs]))⟩
  rcases List.mem_append.1 hs with h | h
  · exact a s h
  · exact a' s h

theorem Sup.map {cl : Callee} {G R : Callee → Prop} (h : Sup cl G) (k : ∀ C, G C → R C) : Sup cl R := by
  obtain ⟨S, a, b⟩ := h
  exact ⟨S, a, fun C hC => k C (b C hC)⟩

theorem Sup.one {cl : Callee} {f : FuncId} {args : List AVal} {H : AHeap} {r : AVal × AHeap} (h : cl f args H = some r) : Sup cl fun C => C f args H = some r :=
  ⟨[(f, args, H, r)], by simpa using h, fun C hC => by simpa using hC⟩

section
variable {eqv : Eqv} {cl : Callee}

theorem stepOp_sup {ρ : Operand → AVal} {H : AHeap} {o : AOp} {r : AVal × AHeap} (h : stepOp ρ cl H o = some r) : Sup cl fun C => stepOp ρ C H o = some r := by
  cases o
  case call f args =>
    simp only [stepOp, AOp.kind, effOp] at h ⊢
    exact .one h
  case callV x args =>
    simp only [stepOp, AOp.kind, effOp] at h ⊢
    split at h
    · rename_i f first caps hx
      exact .one h
    · cases h
  all_goals exact .triv fun C => h

theorem runStep_sup {s : AStep} {T : Fr} {H : AHeap} {r : Fr × AHeap} (h : runStep cl s T H = some r) : Sup cl fun C => runStep C s T H = some r := by
  unfold runStep at h ⊢
  cases hw : wanted s.guard T with
  | false => rw [hw] at h; exact .triv fun C => h
  | true =>
    rw [hw] at h
    simp only at h
    split at h <;> try (cases h; done)
    rename_i v H' he
    exact (stepOp_sup he).map fun C hC => by rw [hC]; exact h

theorem runSteps_sup : ∀ (l : List AStep) {T : Fr} {H : AHeap} {r : Fr × AHeap}, runSteps cl l T H = some r → Sup cl fun C => runSteps C l T H = some r
  | [], _, _, _, h => .triv fun _ => h
  | s :: l, T, H, r, h => by
    simp only [runSteps] at h ⊢
    split at h <;> try (cases h; done)
    rename_i T' H' he
    exact (runStep_sup he).and (runSteps_sup l h) fun C h1 h2 => by rw [h1]; exact h2

theorem runDrawn_sup : ∀ (l : List (AStep × List AStep)) {T : Fr} {H : AHeap} {r : Fr × AHeap}, runDrawn eqv cl l T H = some r → Sup cl fun C => runDrawn eqv C l T H = some r
  | [], _, _, _, h => .triv fun _ => h
  | (s, rs) :: l, T, H, r, h => by
    simp only [runDrawn] at h ⊢
    split at h <;> try (cases h; done)
    rename_i T' H' he
    split at h <;> try (cases h; done)
    rename_i hr
    exact (runStep_sup he).and (runDrawn_sup l h) fun C h1 h2 => by rw [h1]; simp only [hr]; exact h2

theorem exec_sup : ∀ (k : Nat) (c : ACode) {T : Fr} {H : AHeap} {r : AExit × Fr × AHeap}, exec eqv cl k c T H = some r → Sup cl fun C => exec eqv C k c T H = some r := by
  intro k
  induction k with
  | zero => intro c T H r h; simp [exec] at h
  | succ k ih =>
    intro c T H r h
    cases c with
    | skip => exact .triv fun _ => h
    | exit id => exact .triv fun _ => h
    | ret => exact .triv fun _ => h
    | ops l =>
      simp only [exec] at h ⊢
      split at h <;> try (cases h; done)
      rename_i T' H' he
      exact (runSteps_sup l he).map fun C hC => by rw [hC]; exact h
    | drawn l =>
      simp only [exec] at h ⊢
      split at h <;> try (cases h; done)
      rename_i T' H' he
      exact (runDrawn_sup l he).map fun C hC => by rw [hC]; exact h
    | seq a b =>
      simp only [exec] at h ⊢
      cases ha : exec eqv cl k a T H with
      | none => rw [ha] at h; simp at h
      | some q =>
        obtain ⟨e, T1, H1⟩ := q
        rw [ha] at h
        cases e with
        | normal => exact (ih a ha).and (ih b h) fun C h1 h2 => by rw [h1]; exact h2
        | exit id => exact (ih a ha).map fun C h1 => by rw [h1]; exact h
        | ret => exact (ih a ha).map fun C h1 => by rw [h1]; exact h
    | cond c a b =>
      simp only [exec] at h ⊢
      split at h <;> try (cases h; done)
      · exact ih a h
      · exact ih b h
    | block id a =>
      simp only [exec] at h ⊢
      cases ha : exec eqv cl k a T H with
      | none => rw [ha] at h; simp at h
      | some q =>
        rw [ha] at h
        exact (ih a ha).map fun C h1 => by rw [h1]; exact h
    | loop a =>
      simp only [exec] at h ⊢
      cases ha : exec eqv cl k a T H with
      | none => rw [ha] at h; simp at h
      | some q =>
        obtain ⟨e, T1, H1⟩ := q
        rw [ha] at h
        cases e with
        | normal => exact (ih a ha).and (ih (.loop a) h) fun C h1 h2 => by rw [h1]; exact h2
        | exit id => exact (ih a ha).map fun C h1 => by rw [h1]; exact h
        | ret => exact (ih a ha).map fun C h1 => by rw [h1]; exact h

theorem exec_succ : ∀ (k : Nat) (c : ACode) {T : Fr} {H : AHeap} {r : AExit × Fr × AHeap}, exec eqv cl k c T H = some r → exec eqv cl (k + 1) c T H = some r := by
  intro k
  induction k with
  | zero => intro c T H r h; simp [exec] at h
  | succ k ih =>
    intro c T H r h
    cases c with
    | skip => exact h
    | exit id => exact h
    | ret => exact h
    | ops l => exact h
    | drawn l => exact h
    | seq a b =>
      rw [exec] at h ⊢
      cases ha : exec eqv cl k a T H with
      | none => rw [ha] at h; simp at h
      | some q =>
        rw [ih a ha]
        rw [ha] at h
        obtain ⟨e, T1, H1⟩ := q
        cases e with
        | normal => exact ih b h
        | exit id => exact h
        | ret => exact h
    | cond c a b =>
      rw [exec] at h ⊢
      split at h <;> try (cases h; done)
      · exact ih a h
      · exact ih b h
    | block id a =>
      rw [exec] at h ⊢
      cases ha : exec eqv cl k a T H with
      | none => rw [ha] at h; simp at h
      | some q => rw [ih a ha]; rw [ha] at h; exact h
    | loop a =>
      rw [exec] at h ⊢
      cases ha : exec eqv cl k a T H with
      | none => rw [ha] at h; simp at h
      | some q =>
        rw [ih a ha]
        rw [ha] at h
        obtain ⟨e, T1, H1⟩ := q
        cases e with
        | normal => exact ih (.loop a) h
        | exit id => exact h
        | ret => exact h

theorem exec_le {k j : Nat} (hk : k ≤ j) {c : ACode} {T : Fr} {H : AHeap} {r : AExit × Fr × AHeap} (h : exec eqv cl k c T H = some r) : exec eqv cl j c T H = some r := by
  induction hk with
  | refl => exact h
  | step _ ih => exact exec_succ _ _ ih

theorem callF_le {k j : Nat} (hk : k ≤ j) {f : AFunc} {args : List AVal} {H : AHeap} {r : AVal × AHeap} (h : callF eqv cl k f args H = some r) : callF eqv cl j f args H = some r := by
  unfold callF at h ⊢
  cases hx : exec eqv cl k f.code (argFrame args 0 .leaf) H with
  | none => rw [hx] at h; simp at h
  | some q => rw [exec_le hk hx]; rw [hx] at h; exact h

theorem callF_sup {k : Nat} {f : AFunc} {args : List AVal} {H : AHeap} {r : AVal × AHeap} (h : callF eqv cl k f args H = some r) : Sup cl fun C => callF eqv C k f args H = some r := by
  unfold callF at h ⊢
  cases hx : exec eqv cl k f.code (argFrame args 0 .leaf) H with
  | none => rw [hx] at h; simp at h
  | some q => exact (exec_sup k _ hx).map fun C hC => by rw [hC]; rw [hx] at h; exact h
end

/-! ### Calls without bounds -/
section
variable (eqv : Eqv) (X : FuncId → Option XFun) (A : FuncId → Option AFunc)

theorem call_mono (eqv : Eqv) (X : FuncId → Option XFun) (A : FuncId → Option AFunc) {j j' : Nat} (hj : j ≤ j') : ∀ {i i' : Nat}, i ≤ i' → ∀ {f : FuncId} {args : List AVal} {H : AHeap} {r : AVal × AHeap},
    call eqv X A j i f args H = some r → call eqv X A j' i' f args H = some r := by
  intro i
  induction i with
  | zero => intro i' hi f args H r h; simp [call] at h
  | succ i ih =>
    intro i' hi f args H r h
    obtain ⟨p, rfl⟩ : ∃ p, i' = p + 1 := ⟨i' - 1, by omega⟩
    simp only [call] at h ⊢
    cases hx : X f with
    | some x => rw [hx] at h; exact h
    | none =>
      rw [hx] at h
      simp only at h ⊢
      cases ha : A f with
      | none => rw [ha] at h; simp at h
      | some af =>
        rw [ha] at h
        simp only at h ⊢
        obtain ⟨S, h1, h2⟩ := callF_sup h
        exact callF_le hj (h2 _ fun s hs => ih (by omega) (h1 s hs))

open Classical in
/-- The calls, as deep and as long as it takes. -/
noncomputable def CL : Callee := fun f args H =>
  if h : ∃ r, ∃ j i, call eqv X A j i f args H = some r then some h.choose else none

variable {eqv X A}

theorem CL_iff {f : FuncId} {args : List AVal} {H : AHeap} {r : AVal × AHeap} : CL eqv X A f args H = some r ↔ ∃ j i, call eqv X A j i f args H = some r := by
  constructor
  · intro h
    unfold CL at h
    split at h <;> try (cases h; done)
    rename_i hx
    cases h
    exact hx.choose_spec
  · rintro ⟨j, i, h⟩
    have hx : ∃ r, ∃ j i, call eqv X A j i f args H = some r := ⟨r, j, i, h⟩
    unfold CL
    rw [dif_pos hx]
    obtain ⟨j', i', h'⟩ := hx.choose_spec
    have e1 := call_mono eqv X A (Nat.le_max_left j j') (Nat.le_max_left i i') h
    have e2 := call_mono eqv X A (Nat.le_max_right j j') (Nat.le_max_right i i') h'
    rw [e1] at e2
    exact e2.symm

/-- The calls without bounds are the model's. -/
theorem CL_ok {P : Program} (hm : P.follows .mixedOrders = true) (heqv : ∀ v w, eqv v w = true → v = w) (hX : AtOnceOk P X) (hA : TableOk P A) : CalleeOk P (CL eqv X A) := fun f args H v H' h => by
  obtain ⟨j, i, h⟩ := CL_iff.1 h
  exact call_ok hm heqv hX hA j i f args H v H' h

theorem CL_once {f : FuncId} {x : XFun} (hx : X f = some x) {args : List AVal} {H : AHeap} {r : AVal × AHeap} (h : x args H = some r) : CL eqv X A f args H = some r :=
  CL_iff.2 ⟨0, 1, by simp only [call, hx]; exact h⟩

theorem CL_func {f : FuncId} {af : AFunc} (hx : X f = none) (ha : A f = some af) {k : Nat} {args : List AVal} {H : AHeap} {r : AVal × AHeap} (h : callF eqv (CL eqv X A) k af args H = some r) :
    CL eqv X A f args H = some r := by
  obtain ⟨S, h1, h2⟩ := callF_sup h
  have hn : ∃ n, ∀ s ∈ S, call eqv X A n n s.1 s.2.1 s.2.2.1 = some s.2.2.2 := by
    clear h2
    induction S with
    | nil => exact ⟨0, by simp⟩
    | cons s S ih =>
      obtain ⟨n, hn⟩ := ih fun s hs => h1 s (by simp [hs])
      obtain ⟨j, i, hs⟩ := CL_iff.1 (h1 s (by simp))
      refine ⟨max n (max j i), fun t ht => ?_⟩
      rcases List.mem_cons.1 ht with rfl | ht
      · exact call_mono eqv X A (by omega) (by omega) hs
      · exact call_mono eqv X A (by omega) (by omega) (hn t ht)
  obtain ⟨n, hn⟩ := hn
  have := h2 (call eqv X A (max n k) n) fun s hs => call_mono eqv X A (by omega) (Nat.le_refl _) (hn s hs)
  exact CL_iff.2 ⟨max n k, n + 1, by simp only [call, hx, ha]; exact callF_le (by omega) this⟩
end

/-! ### A logic of runs -/

/-- A code runs to its end. -/
def Run (eqv : Eqv) (cl : Callee) (c : ACode) (T : Fr) (H : AHeap) (Q : AExit → Fr → AHeap → Prop) : Prop :=
  ∃ k e T' H', exec eqv cl k c T H = some (e, T', H') ∧ Q e T' H'

def Steps (cl : Callee) (l : List AStep) (T : Fr) (H : AHeap) (K : Fr → AHeap → Prop) : Prop :=
  ∃ T' H', runSteps cl l T H = some (T', H') ∧ K T' H'

def Drawn (eqv : Eqv) (cl : Callee) (l : List (AStep × List AStep)) (T : Fr) (H : AHeap) (K : Fr → AHeap → Prop) : Prop :=
  ∃ T' H', runDrawn eqv cl l T H = some (T', H') ∧ K T' H'

/-- An operation's run. -/
def OpRun (cl : Callee) (o : AOp) (T : Fr) (H : AHeap) (K : AVal → AHeap → Prop) : Prop :=
  ∃ v H', stepOp (aeval T) cl H o = some (v, H') ∧ K v H'

/-- A call's run. -/
def Comes (cl : Callee) (f : FuncId) (args : List AVal) (H : AHeap) (K : AVal → AHeap → Prop) : Prop :=
  ∃ v H', cl f args H = some (v, H') ∧ K v H'

section
variable {eqv : Eqv} {cl : Callee} {T : Fr} {H : AHeap} {Q : AExit → Fr → AHeap → Prop}

theorem Comes.mono {f : FuncId} {args : List AVal} {K K' : AVal → AHeap → Prop} (h : Comes cl f args H K) (hk : ∀ v H', K v H' → K' v H') : Comes cl f args H K' := by
  obtain ⟨v, H', h1, h2⟩ := h
  exact ⟨v, H', h1, hk v H' h2⟩

theorem Run.mono {c : ACode} {Q' : AExit → Fr → AHeap → Prop} (h : Run eqv cl c T H Q) (hq : ∀ e T' H', Q e T' H' → Q' e T' H') : Run eqv cl c T H Q' := by
  obtain ⟨k, e, T', H', h1, h2⟩ := h
  exact ⟨k, e, T', H', h1, hq e T' H' h2⟩

theorem Run.skip (h : Q .normal T H) : Run eqv cl .skip T H Q := ⟨1, .normal, T, H, rfl, h⟩
theorem Run.exit {id : Nat} (h : Q (.exit id) T H) : Run eqv cl (.exit id) T H Q := ⟨1, .exit id, T, H, rfl, h⟩
theorem Run.ret (h : Q .ret T H) : Run eqv cl .ret T H Q := ⟨1, .ret, T, H, rfl, h⟩
theorem Run.ops {l : List AStep} (h : Steps cl l T H fun T' H' => Q .normal T' H') : Run eqv cl (.ops l) T H Q := by
  obtain ⟨T', H', h1, h2⟩ := h
  exact ⟨1, .normal, T', H', by simp only [exec, h1], h2⟩
theorem Run.drawn {l : List (AStep × List AStep)} (h : Drawn eqv cl l T H fun T' H' => Q .normal T' H') : Run eqv cl (.drawn l) T H Q := by
  obtain ⟨T', H', h1, h2⟩ := h
  exact ⟨1, .normal, T', H', by simp only [exec, h1], h2⟩

/-- What follows: the rest at a normal end. -/
def Then (eqv : Eqv) (cl : Callee) (b : ACode) (Q : AExit → Fr → AHeap → Prop) : AExit → Fr → AHeap → Prop
  | .normal, T, H => Run eqv cl b T H Q
  | e, T, H => Q e T H

theorem Run.seq {a b : ACode} (h : Run eqv cl a T H (Then eqv cl b Q)) : Run eqv cl (.seq a b) T H Q := by
  obtain ⟨k, e, T1, H1, h1, h2⟩ := h
  cases e with
  | normal =>
    obtain ⟨j, e, T2, H2, h3, h4⟩ := h2
    refine ⟨max k j + 1, e, T2, H2, ?_, h4⟩
    simp only [exec, exec_le (Nat.le_max_left k j) h1]
    exact exec_le (Nat.le_max_right k j) h3
  | exit id => exact ⟨k + 1, .exit id, T1, H1, by simp only [exec, h1], h2⟩
  | ret => exact ⟨k + 1, .ret, T1, H1, by simp only [exec, h1], h2⟩

theorem Run.cond_true {c : Operand} {a b : ACode} (hc : aeval T c = .prim (.bool true)) (h : Run eqv cl a T H Q) : Run eqv cl (.cond c a b) T H Q := by
  obtain ⟨k, e, T1, H1, h1, h2⟩ := h
  exact ⟨k + 1, e, T1, H1, by simp only [exec, hc, h1], h2⟩
theorem Run.cond_false {c : Operand} {a b : ACode} (hc : aeval T c = .prim (.bool false)) (h : Run eqv cl b T H Q) : Run eqv cl (.cond c a b) T H Q := by
  obtain ⟨k, e, T1, H1, h1, h2⟩ := h
  exact ⟨k + 1, e, T1, H1, by simp only [exec, hc, h1], h2⟩
theorem Run.cond {c : Operand} {a b : ACode} {t : Bool} (hc : aeval T c = .prim (.bool t)) (ht : t = true → Run eqv cl a T H Q) (hf : t = false → Run eqv cl b T H Q) :
    Run eqv cl (.cond c a b) T H Q := by
  cases t with
  | true => exact .cond_true hc (ht rfl)
  | false => exact .cond_false hc (hf rfl)

/-- What is behind a block: its exit is its end. -/
def Past (id : Nat) (Q : AExit → Fr → AHeap → Prop) : AExit → Fr → AHeap → Prop
  | .exit i, T, H => if i = id then Q .normal T H else Q (.exit i) T H
  | e, T, H => Q e T H

theorem Run.block {id : Nat} {a : ACode} (h : Run eqv cl a T H (Past id Q)) : Run eqv cl (.block id a) T H Q := by
  obtain ⟨k, e, T1, H1, h1, h2⟩ := h
  cases e with
  | normal => exact ⟨k + 1, .normal, T1, H1, by simp only [exec, h1], h2⟩
  | ret => exact ⟨k + 1, .ret, T1, H1, by simp only [exec, h1], h2⟩
  | exit i =>
    simp only [Past] at h2
    by_cases hi : i = id
    · rw [if_pos hi] at h2
      exact ⟨k + 1, .normal, T1, H1, by simp only [exec, h1, hi, if_true], h2⟩
    · rw [if_neg hi] at h2
      exact ⟨k + 1, .exit i, T1, H1, by simp only [exec, h1, hi, if_false], h2⟩

theorem Run.round {a : ACode} (h : Run eqv cl a T H (Then eqv cl (.loop a) Q)) : Run eqv cl (.loop a) T H Q := by
  obtain ⟨k, e, T1, H1, h1, h2⟩ := h
  cases e with
  | normal =>
    obtain ⟨j, e, T2, H2, h3, h4⟩ := h2
    refine ⟨max k j + 1, e, T2, H2, ?_, h4⟩
    simp only [exec, exec_le (Nat.le_max_left k j) h1]
    exact exec_le (Nat.le_max_right k j) h3
  | exit id => exact ⟨k + 1, .exit id, T1, H1, by simp only [exec, h1], h2⟩
  | ret => exact ⟨k + 1, .ret, T1, H1, by simp only [exec, h1], h2⟩

/-- A loop, by what holds ahead of each round, and a number that falls. -/
theorem Run.loop {a : ACode} (I : Nat → Fr → AHeap → Prop)
    (hr : ∀ n T H, I n T H → Run eqv cl a T H fun e T' H' => match e with | .normal => ∃ m, m < n ∧ I m T' H' | e => Q e T' H')
    {n : Nat} (h : I n T H) : Run eqv cl (.loop a) T H Q := by
  induction n using Nat.strongRecOn generalizing T H with
  | ind n ih =>
    refine Run.round ((hr n T H h).mono fun e T' H' he => ?_)
    cases e with
    | normal =>
      obtain ⟨m, hm, hI⟩ := he
      exact ih m hm hI
    | exit id => exact he
    | ret => exact he

theorem Steps.nil {K : Fr → AHeap → Prop} (h : K T H) : Steps cl [] T H K := ⟨T, H, rfl, h⟩

theorem Steps.cons {d : Option Nat} {o : AOp} {l : List AStep} {K : Fr → AHeap → Prop} (h : OpRun cl o T H fun v H' => Steps cl l (aput T d v) H' K) :
    Steps cl (⟨d, o, none⟩ :: l) T H K := by
  obtain ⟨v, H', h1, T2, H2, h2, h3⟩ := h
  exact ⟨T2, H2, by simp only [runSteps, runStep, wanted, h1]; exact h2, h3⟩

theorem Steps.guarded {d : Option Nat} {o : AOp} {t : Nat} {b c : Bool} {l : List AStep} {K : Fr → AHeap → Prop} (hs : slot T t = .prim (.bool c))
    (ht : c = b → OpRun cl o T H fun v H' => Steps cl l (aput T d v) H' K) (hf : c ≠ b → Steps cl l (aput T d unit) H K) :
    Steps cl (⟨d, o, some (t, b)⟩ :: l) T H K := by
  by_cases hc : c = b
  · obtain ⟨v, H', h1, T2, H2, h2, h3⟩ := ht hc
    exact ⟨T2, H2, by simp only [runSteps, runStep, wanted, hs, hc, beq_self_eq_true, h1]; exact h2, h3⟩
  · obtain ⟨T2, H2, h2, h3⟩ := hf hc
    have : (c == b) = false := by simpa using hc
    exact ⟨T2, H2, by simp only [runSteps, runStep, wanted, hs, this]; exact h2, h3⟩

theorem Drawn.nil {K : Fr → AHeap → Prop} (h : K T H) : Drawn eqv cl [] T H K := ⟨T, H, rfl, h⟩

theorem Drawn.cons {d : Option Nat} {o : AOp} {rs : List AStep} {l : List (AStep × List AStep)} {K : Fr → AHeap → Prop}
    (h : OpRun cl o T H fun v H' => recheck eqv (aput T d v) H' rs = true ∧ Drawn eqv cl l (aput T d v) H' K) :
    Drawn eqv cl ((⟨d, o, none⟩, rs) :: l) T H K := by
  obtain ⟨v, H', h1, hr, T2, H2, h2, h3⟩ := h
  exact ⟨T2, H2, by simp only [runDrawn, runStep, wanted, h1, hr]; exact h2, h3⟩

theorem Drawn.guarded {d : Option Nat} {o : AOp} {t : Nat} {b c : Bool} {rs : List AStep} {l : List (AStep × List AStep)} {K : Fr → AHeap → Prop} (hs : slot T t = .prim (.bool c))
    (ht : c = b → OpRun cl o T H fun v H' => recheck eqv (aput T d v) H' rs = true ∧ Drawn eqv cl l (aput T d v) H' K)
    (hf : c ≠ b → recheck eqv (aput T d unit) H rs = true ∧ Drawn eqv cl l (aput T d unit) H K) :
    Drawn eqv cl ((⟨d, o, some (t, b)⟩, rs) :: l) T H K := by
  by_cases hc : c = b
  · obtain ⟨v, H', h1, hr, T2, H2, h2, h3⟩ := ht hc
    exact ⟨T2, H2, by simp only [runDrawn, runStep, wanted, hs, hc, beq_self_eq_true, h1, hr]; exact h2, h3⟩
  · obtain ⟨hr, T2, H2, h2, h3⟩ := hf hc
    have : (c == b) = false := by simpa using hc
    exact ⟨T2, H2, by simp only [runDrawn, runStep, wanted, hs, this, hr]; exact h2, h3⟩

theorem OpRun.pure {o : AOp} (hk : o.kind = 0) {v : AVal} {K : AVal → AHeap → Prop} (h : pureOp (aeval T) o = some v) (hK : K v H) : OpRun cl o T H K :=
  ⟨v, H, by simp only [stepOp, hk, h, Option.map_some], hK⟩
theorem OpRun.read {o : AOp} (hk : o.kind = 1) {v : AVal} {K : AVal → AHeap → Prop} (h : readOp (aeval T) H o = some v) (hK : K v H) : OpRun cl o T H K :=
  ⟨v, H, by simp only [stepOp, hk, h, Option.map_some], hK⟩
theorem OpRun.make {o : AOp} (hk : o.kind = 2) {ob : AObj} {f : Nat → AVal} {K : AVal → AHeap → Prop} (h : makeOp (aeval T) o = some (ob, f)) (hK : K (f H.n) (H.push ob)) : OpRun cl o T H K :=
  ⟨f H.n, H.push ob, by simp only [stepOp, hk, h], hK⟩
theorem OpRun.eff {o : AOp} (hk : o.kind = 3) {v : AVal} {H' : AHeap} {K : AVal → AHeap → Prop} (h : effOp (aeval T) cl H o = some (v, H')) (hK : K v H') : OpRun cl o T H K :=
  ⟨v, H', by simp only [stepOp, hk, h], hK⟩
theorem OpRun.call {f : FuncId} {args : List Operand} {K : AVal → AHeap → Prop} (h : Comes cl f (args.map (aeval T)) H K) : OpRun cl (.call f args) T H K := by
  obtain ⟨v, H', h1, h2⟩ := h
  exact ⟨v, H', by simp only [stepOp, AOp.kind, effOp]; exact h1, h2⟩
theorem OpRun.callV {x : Operand} {f : FuncId} {first caps : List AVal} {args : List Operand} {K : AVal → AHeap → Prop} (hx : aeval T x = .func f first caps)
    (h : Comes cl f (first ++ (args.map (aeval T) ++ caps)) H K) : OpRun cl (.callV x args) T H K := by
  obtain ⟨v, H', h1, h2⟩ := h
  exact ⟨v, H', by simp only [stepOp, AOp.kind, effOp, hx]; exact h1, h2⟩

/-- A function's end: its results. -/
def Done (rs : List ARes) (K : AVal → AHeap → Prop) : AExit → Fr → AHeap → Prop
  | .exit _, _, _ => False
  | _, T, H => ∃ vs, results T H rs = some vs ∧ K (asOne vs) H

theorem Comes.func {X : FuncId → Option XFun} {A : FuncId → Option AFunc} {f : FuncId} {af : AFunc} (hx : X f = none) (ha : A f = some af) {args : List AVal} {K : AVal → AHeap → Prop}
    (h : Run eqv (CL eqv X A) af.code (argFrame args 0 .leaf) H (Done af.results K)) : Comes (CL eqv X A) f args H K := by
  obtain ⟨k, e, T', H', h1, h2⟩ := h
  have key : ∃ vs, results T' H' af.results = some vs ∧ K (asOne vs) H' ∧ (e = .normal ∨ e = .ret) := by
    cases e with
    | normal => obtain ⟨vs, a, b⟩ := h2; exact ⟨vs, a, b, .inl rfl⟩
    | ret => obtain ⟨vs, a, b⟩ := h2; exact ⟨vs, a, b, .inr rfl⟩
    | exit id => exact h2.elim
  obtain ⟨vs, a, b, he⟩ := key
  refine ⟨asOne vs, H', CL_func hx ha (k := k) ?_, b⟩
  rcases he with rfl | rfl <;> simp only [callF, h1, a]

theorem Comes.once {X : FuncId → Option XFun} {A : FuncId → Option AFunc} {f : FuncId} {x : XFun} (hx : X f = some x) {args : List AVal} {v : AVal} {H' : AHeap} {K : AVal → AHeap → Prop}
    (h : x args H = some (v, H')) (hK : K v H') : Comes (CL eqv X A) f args H K := ⟨v, H', CL_once hx h, hK⟩
end
end Go.AM
