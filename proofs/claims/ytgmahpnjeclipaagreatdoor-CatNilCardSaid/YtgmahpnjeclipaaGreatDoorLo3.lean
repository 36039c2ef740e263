/- Rules by which simp runs code of the abstract machine. No condition. -/
import Derived.Test.YtgmahpnjeclipaaGreatDoorLo2
namespace Go.AM
section
variable {eqv : Eqv} {cl : Callee} {T : Fr} {H : AHeap} {Q : AExit → Fr → AHeap → Prop}

theorem bool_beq_true (b : Bool) : (b == true) = b := by cases b <;> rfl
theorem bool_beq_false (b : Bool) : (b == false) = !b := by cases b <;> rfl

/-- What a list of operations comes to. -/
def onSteps (r : Option (Fr × AHeap)) (K : Fr → AHeap → Prop) : Prop :=
  match r with
  | some (T, H) => K T H
  | none => False

theorem onSteps_some {T : Fr} {H : AHeap} {K : Fr → AHeap → Prop} : onSteps (some (T, H)) K ↔ K T H := Iff.rfl

theorem Run_ops {l : List AStep} : Run eqv cl (.ops l) T H Q ↔ onSteps (runSteps cl l T H) (Q .normal) := by
  constructor
  · rintro ⟨k, e, T', H', h1, h2⟩
    cases k with
    | zero => simp [exec] at h1
    | succ k =>
      simp only [exec] at h1
      cases hr : runSteps cl l T H with
      | none => rw [hr] at h1; simp at h1
      | some q => rw [hr] at h1; simp at h1; obtain ⟨rfl, rfl, rfl⟩ := h1; exact h2
  · intro h
    cases hr : runSteps cl l T H with
    | none => rw [hr] at h; exact h.elim
    | some q => rw [hr] at h; exact Run.ops ⟨q.1, q.2, hr, h⟩

theorem Run_drawn {l : List (AStep × List AStep)} : Run eqv cl (.drawn l) T H Q ↔ onSteps (runDrawn eqv cl l T H) (Q .normal) := by
  constructor
  · rintro ⟨k, e, T', H', h1, h2⟩
    cases k with
    | zero => simp [exec] at h1
    | succ k =>
      simp only [exec] at h1
      cases hr : runDrawn eqv cl l T H with
      | none => rw [hr] at h1; simp at h1
      | some q => rw [hr] at h1; simp at h1; obtain ⟨rfl, rfl, rfl⟩ := h1; exact h2
  · intro h
    cases hr : runDrawn eqv cl l T H with
    | none => rw [hr] at h; exact h.elim
    | some q => rw [hr] at h; exact Run.drawn ⟨q.1, q.2, hr, h⟩

theorem Run_skip : Run eqv cl .skip T H Q ↔ Q .normal T H := by
  constructor
  · rintro ⟨k, e, T', H', h1, h2⟩
    cases k with
    | zero => simp [exec] at h1
    | succ k => simp only [exec] at h1; cases h1; exact h2
  · exact Run.skip
theorem Run_exit {id : Nat} : Run eqv cl (.exit id) T H Q ↔ Q (.exit id) T H := by
  constructor
  · rintro ⟨k, e, T', H', h1, h2⟩
    cases k with
    | zero => simp [exec] at h1
    | succ k => simp only [exec] at h1; cases h1; exact h2
  · exact Run.exit
theorem Run_ret : Run eqv cl .ret T H Q ↔ Q .ret T H := by
  constructor
  · rintro ⟨k, e, T', H', h1, h2⟩
    cases k with
    | zero => simp [exec] at h1
    | succ k => simp only [exec] at h1; cases h1; exact h2
  · exact Run.ret

theorem Run_seq {a b : ACode} : Run eqv cl (.seq a b) T H Q ↔ Run eqv cl a T H (Then eqv cl b Q) := by
  constructor
  · rintro ⟨k, e, T', H', h1, h2⟩
    cases k with
    | zero => simp [exec] at h1
    | succ k =>
      simp only [exec] at h1
      cases ha : exec eqv cl k a T H with
      | none => rw [ha] at h1; simp at h1
      | some q =>
        obtain ⟨e1, T1, H1⟩ := q
        rw [ha] at h1
        cases e1 with
        | normal => exact ⟨k, .normal, T1, H1, ha, k, e, T', H', h1, h2⟩
        | exit id => cases h1; exact ⟨k, _, _, _, ha, h2⟩
        | ret => cases h1; exact ⟨k, _, _, _, ha, h2⟩
  · exact Run.seq

theorem Run_block {id : Nat} {a : ACode} : Run eqv cl (.block id a) T H Q ↔ Run eqv cl a T H (Past id Q) := by
  constructor
  · rintro ⟨k, e, T', H', h1, h2⟩
    cases k with
    | zero => simp [exec] at h1
    | succ k =>
      simp only [exec] at h1
      cases ha : exec eqv cl k a T H with
      | none => rw [ha] at h1; simp at h1
      | some q =>
        obtain ⟨e1, T1, H1⟩ := q
        rw [ha] at h1
        cases e1 with
        | normal => cases h1; exact ⟨k, _, _, _, ha, h2⟩
        | ret => cases h1; exact ⟨k, _, _, _, ha, h2⟩
        | exit i =>
          refine ⟨k, _, _, _, ha, ?_⟩
          simp only [Past]
          by_cases hi : i = id
          · simp only [hi, if_true] at h1
            cases h1
            rw [if_pos hi]
            exact h2
          · simp only [hi, if_false] at h1
            cases h1
            rw [if_neg hi]
            exact h2
  · exact Run.block

/-- What a condition comes to. -/
def onBool (v : AVal) (p q : Prop) : Prop :=
  match v with
  | .prim (.bool true) => p
  | .prim (.bool false) => q
  | _ => False

theorem onBool_true {p q : Prop} : onBool (.prim (.bool true)) p q ↔ p := Iff.rfl
theorem onBool_false {p q : Prop} : onBool (.prim (.bool false)) p q ↔ q := Iff.rfl
theorem onBool_dec {c : Prop} [Decidable c] {p q : Prop} : onBool (.prim (.bool (decide c))) p q ↔ (c → p) ∧ (¬ c → q) := by
  by_cases h : c <;> simp [h, onBool]
theorem onBool_not {c : Prop} [Decidable c] {p q : Prop} : onBool (.prim (.bool (!decide c))) p q ↔ (c → q) ∧ (¬ c → p) := by
  by_cases h : c <;> simp [h, onBool]

theorem Run_cond {c : Operand} {a b : ACode} : Run eqv cl (.cond c a b) T H Q ↔ onBool (aeval T c) (Run eqv cl a T H Q) (Run eqv cl b T H Q) := by
  constructor
  · rintro ⟨k, e, T', H', h1, h2⟩
    cases k with
    | zero => simp [exec] at h1
    | succ k =>
      simp only [exec] at h1
      unfold onBool
      split at h1 <;> try (cases h1; done)
      · rename_i hc; rw [hc]; exact ⟨k, _, _, _, h1, h2⟩
      · rename_i hc; rw [hc]; exact ⟨k, _, _, _, h1, h2⟩
  · intro h
    unfold onBool at h
    split at h
    · rename_i hc; exact Run.cond_true hc h
    · rename_i hc; exact Run.cond_false hc h
    · exact h.elim

theorem Then_normal {b : ACode} : Then eqv cl b Q .normal = fun T H => Run eqv cl b T H Q := rfl
theorem Then_exit {b : ACode} {id : Nat} : Then eqv cl b Q (.exit id) = Q (.exit id) := rfl
theorem Then_ret {b : ACode} : Then eqv cl b Q .ret = Q .ret := rfl
theorem Past_normal {id : Nat} : AM.Past id Q .normal = Q .normal := rfl
theorem Past_ret {id : Nat} : AM.Past id Q .ret = Q .ret := rfl
theorem Past_exit {id i : Nat} : AM.Past id Q (.exit i) T H = if i = id then Q .normal T H else Q (.exit i) T H := rfl
/-- What results come to. -/
def onRes (r : Option (List AVal)) (K : AVal → AHeap → Prop) (H : AHeap) : Prop :=
  match r with
  | some vs => K (asOne vs) H
  | none => False
theorem onRes_some {vs : List AVal} {K : AVal → AHeap → Prop} : onRes (some vs) K H ↔ K (asOne vs) H := Iff.rfl
theorem onRes_iff {r : Option (List AVal)} {K : AVal → AHeap → Prop} : (∃ vs, r = some vs ∧ K (asOne vs) H) ↔ onRes r K H := by
  cases r <;> simp [onRes]
theorem Done_normal {rs : List ARes} {K : AVal → AHeap → Prop} : Done rs K .normal T H ↔ onRes (results T H rs) K H := onRes_iff
theorem Done_ret {rs : List ARes} {K : AVal → AHeap → Prop} : Done rs K .ret T H ↔ onRes (results T H rs) K H := onRes_iff

/-- What calls come to, told by an equation of a callee's answer. -/
theorem stepOp_call {ρ : Operand → AVal} {f : FuncId} {args : List Operand} : stepOp ρ cl H (.call f args) = cl f (args.map ρ) H := rfl
end
end Go.AM
