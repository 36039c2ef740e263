/- The store's Room: what it answers, in whatever order its files come. Over the program's given form. -/
import Derived.Test.YtgmahpnjeclipaaGreatDoorMl2
import Derived.Test.YtgmahpnjeclipaaGreatDoorOnce
namespace Go.AM
section
variable {P : Program}

/-- Operations ahead of others, in a region that draws no order. -/
theorem steps_wp_app {ops : Array Oper} {cl : AM.Callee} (hcl : CalleeOk P cl) {tail : List Oper} : ∀ (l : List Oper) (sl : List AStep) {T : Fr} {H : AHeap} {γ : Pl} {a : Act} {w : World} {T' : Fr} {H' : AHeap} {Q : Exit → Act → World → Prop},
    compSteps P ops l = some sl → runSteps cl sl T H = some (T', H') → Rw γ H w → FrRel γ T a → (∀ o ∈ l, ∀ d, o.dst = some d → d < a.tmps.size) →
    (∀ a' w', Fin γ H w a T' H' a' w' → wpList P ops Q tail a' w') → wpList P ops Q (l ++ tail) a w
  | [], sl, T, H, γ, a, w, T', H', Q, hc, hrun, hw, hfr, hN, hQ => by
    simp [compSteps] at hc
    subst hc
    simp only [runSteps, Option.some.injEq, Prod.mk.injEq] at hrun
    obtain ⟨rfl, rfl⟩ := hrun
    exact hQ a w ⟨γ, hfr, hw, Stp.refl _ _ _, rfl, rfl⟩
  | o :: l, sl, T, H, γ, a, w, T', H', Q, hc, hrun, hw, hfr, hN, hQ => by
    simp only [compSteps] at hc
    split at hc <;> try (cases hc; done)
    rename_i s r hs hr
    cases hc
    simp only [runSteps] at hrun
    split at hrun <;> try (cases hrun; done)
    rename_i T1 H1 hstep
    obtain ⟨hdst, hcomp⟩ := compStep_op hs
    have hwant := wanted_same (T := T) (a := a) (γ := γ) hs fun t b _ => hfr t
    have hdN : ∀ d, s.dst = some d → d < a.tmps.size := fun d hd => hN o (by simp) d (by rw [← hdst]; exact hd)
    have key : ∀ (v : AVal) (v' : Value) (w' : World) (γ' : Pl), T1 = aput T s.dst v → rel γ' v v' → Rw γ' H1 w' → Stp γ γ' H H1 w w' → wpList P ops Q (l ++ tail) (a.put o.dst v') w' := by
      intro v v' w' γ' e r1 r2 r3
      subst e
      rw [← hdst]
      refine steps_wp_app hcl l r hr hrun r2 ((hfr.mono r3.ext).put hdN r1) (fun o' ho' d hd => by rw [put_size]; exact hN o' (by simp [ho']) d hd) fun a2 w2 hf => hQ a2 w2 ?_
      exact hf.trans r3 (put_size _ _ _) (by cases s.dst <;> rfl)
    unfold runStep at hstep
    rw [List.cons_append]
    unfold wpList
    rw [hwant]
    cases hwn : wanted s.guard T with
    | false =>
      rw [hwn] at hstep
      simp only [Option.some.injEq, Prod.mk.injEq] at hstep
      obtain ⟨e, rfl⟩ := hstep
      simp only [Bool.false_eq_true, if_false]
      exact key unit undef w γ e.symm (by simp [unit, rel_prim, undef]) hw (Stp.refl _ _ _)
    | true =>
      rw [hwn] at hstep
      simp only at hstep
      split at hstep <;> try (cases hstep; done)
      rename_i v H2 hop
      simp only [Option.some.injEq, Prod.mk.injEq] at hstep
      obtain ⟨e, rfl⟩ := hstep
      simp only [if_true]
      have hc : compOp P o.op = some s.op := by
        rcases hcomp with e | e
        · exact e
        · rw [e, stepOp_fail] at hop; cases hop
      exact .inl (Back.wp (step_run hcl hw hfr.eval hc hop) fun v' w' ⟨γ', r1, r2, r3⟩ => key v v' w' γ' e.symm r1 r2 r3)


/-- Parts of codes. -/
def codeL : Code → Code
  | .seq a _ => a
  | .block _ a => a
  | .loop a => a
  | .cond _ a _ => a
  | c => c
def codeR : Code → Code
  | .seq _ b => b
  | .cond _ _ b => b
  | c => c
def codeOps : Code → List Oper
  | .region _ ops _ => ops.toList
  | _ => []
def codeId : Code → Nat
  | .region id _ _ => id
  | .block id _ => id
  | _ => 0

/-- The sum of the lengths of the files' rows of sectors. -/
def sizeOf (H : AHeap) (v : AVal) : Option Nat :=
  match v with
  | .ptr b 0 =>
    match H.get b with
    | some (.cells (.slice _ _ n _ _ :: _)) => some n
    | some (.cells (.prim (.slice _ n _) :: _)) => some n
    | _ => none
  | _ => none

def sizesOf (H : AHeap) : List (Value × AVal) → Option Nat
  | [] => some 0
  | (_, v) :: l =>
    match sizeOf H v, sizesOf H l with
    | some n, some m => some (n + m)
    | _, _ => none

/-- (*FS).Room of a store that is up. -/
def xRoom2 : XFun
  | [.ptr b 0], H =>
    match H.get b with
    | some (.cells [.prim (.int .i64 (.ofNat most)), _, _, .prim (.bool false), .map m]) =>
      match H.get m with
      | some (.map es) =>
        match sizesOf H es with
        | some s =>
          match Nat.ble s most, Nat.blt most 4611686018427387904 with
          | true, true => some (.prim (.int .i64 (.ofNat (most - s))), H)
          | _, _ => none
        | none => none
      | _ => none
    | _ => none
  | _, _ => none


def codeArr : Code → Array Oper
  | .region _ ops _ => ops
  | _ => #[]
def noOper : Oper := { dst := none, op := .move (.const undef), type := 0, pos := "", after := #[], guard := none }
def opAt (c : Code) (i : Nat) : Oper := (codeOps c).getD i noOper

/-- A call, by its body's run. -/
theorem back_of_wp {f : FuncId} {fn : Func} {c : Code} (hf : P.funcs[f]? = some fn) (hname : (fn.name == "runtime.NumGoroutine") = false) (hb : fn.body = some c) {γ : Pl} {w : World} {args : List AVal} {args' : Array Value}
    (ha : rels γ args args'.toList) {R : Value → World → Prop}
    (h : ∀ a0 : Act, FrRel γ (argFrame args 0 .leaf) a0 → fn.ntmps ≤ a0.tmps.size → a0.defers = [] → c.wp P (bodyPost P fn fun e w'' => match e with | .returned v' => R v' w'' | _ => False) a0 w) :
    Back P R ((callFunc f args').run P w) := by
  have hrun : (callFunc f args').run P w = .ok (.enter f args') w := by
    have h1 : fn.name ≠ "runtime.NumGoroutine" := by simpa using hname
    simp [callFunc, hf, h1, hb]
  rw [hrun]
  simp only [Back]
  refine calls_of_wp hf hb (h _ ?_ (by simp; omega) rfl)
  intro t
  rw [slot_argFrame]
  have hl := rels_length ha
  simp only [Array.length_toList] at hl
  simp only [Array.getD_eq_getD_getElem?, Array.getElem?_append, Array.getElem?_replicate]
  by_cases ht : t < args.length
  · rw [if_pos ⟨by omega, by omega⟩, if_pos (by omega)]
    obtain ⟨v', e, r⟩ := rels_get ha t args[t] (List.getElem?_eq_getElem ht)
    rw [Array.getElem?_toList] at e
    rw [e]
    simpa [List.getD_eq_getElem?_getD, ht] using r
  · rw [if_neg (by omega), if_neg (by omega)]
    have : slot (.leaf : Fr) t = unit := rfl
    rw [this]
    split <;> simp [unit, rel_prim, undef]

/-- A function's end. -/
theorem end_of_results {fn : Func} {a : Act} {T : Fr} {H : AHeap} {γ : Pl} {w : World} (hw : Rw γ H w) (hfr : FrRel γ T a) (hdf : a.defers = []) {rs : List ARes} {vs : List AVal}
    (hc : compRes P fn.results.toList = some rs) (hr : AM.results T H rs = some vs) {R : Value → World → Prop} (hR : ∀ v', rel γ (asOne vs) v' → R v' w) :
    bodyPost P fn (fun e w'' => match e with | .returned v' => R v' w'' | _ => False) .normal a w := by
  obtain ⟨v', g1, g2⟩ := results_run (fn := fn) hw hfr hc hr
  exact ⟨hdf, v', g1, hR v' g2⟩
end

namespace Code
open Go.Proofs
set_option maxRecDepth 1000000
set_option maxHeartbeats 4000000

noncomputable def roomC : Go.Code := Tryz.f149.body.getD .skip
noncomputable def roomD : Go.Code := codeL (codeR (codeR (codeR roomC)))
noncomputable def roomE : Go.Code := codeR (codeR (codeR (codeR roomC)))
noncomputable def roomB : Go.Code := codeL (codeL (codeR roomD))

def roomS6 : List AStep := [⟨some 26, .extract (.tmp 25) 1, none⟩, ⟨some 5, .move (.tmp 26), none⟩]
def roomA7 : ACode := .ops [⟨some 27, .move (.tmp 3), none⟩, ⟨some 28, .move (.tmp 5), none⟩, ⟨some 29, .nilCheck (.tmp 28), none⟩, ⟨some 30, .field 0 (.tmp 29), none⟩, ⟨some 31, .load none (.tmp 30), none⟩,
  ⟨some 32, .lenSl (.tmp 31), none⟩, ⟨some 33, .bin .sub none (.tmp 27) (.tmp 32), none⟩, ⟨some 3, .move (.tmp 33), none⟩]

noncomputable def roomLoop : MapLoop Tryz.prog 35 roomB where
  it := 22
  t1 := 23
  t2 := 24
  t3 := 25
  b0 := 0
  b1 := 1
  id5 := codeId (codeL roomB)
  id6 := codeId (codeL (codeL (codeR (codeR roomB))))
  next := opAt (codeL roomB) 0
  ext := opAt (codeL roomB) 1
  ent := opAt (codeL (codeL (codeR (codeR roomB)))) 0
  ops5 := codeArr (codeL roomB)
  ops6 := codeArr (codeL (codeL (codeR (codeR roomB))))
  rest := (codeOps (codeL (codeL (codeR (codeR roomB))))).tail
  B := codeR (codeL (codeR (codeR roomB)))
  s6 := roomS6
  ac := roomA7
  shape := by kernel_rfl
  h5 := by kernel_rfl
  n1 := by kernel_rfl
  n2 := by kernel_rfl
  n3 := by kernel_rfl
  x1 := by kernel_rfl
  x2 := by kernel_rfl
  x3 := by kernel_rfl
  h6 := by kernel_rfl
  e1 := by kernel_rfl
  e2 := by kernel_rfl
  e3 := by kernel_rfl
  hs := by kernel_rfl
  hc := by kernel_rfl
  hd := by kernel_rfl
  hb := by kernel_rfl
  lt := by decide
  ne := by decide


/-- A value's size, or 0. -/
def szOf (H : AHeap) (v : AVal) : Nat := (sizeOf H v).getD 0

theorem sizesOf_sum {H : AHeap} : ∀ {es : List (Value × AVal)} {s : Nat}, sizesOf H es = some s → (∀ e ∈ es, ∃ n, sizeOf H e.2 = some n) ∧ (es.map fun e => szOf H e.2).sum = s
  | [], s, h => by simp [sizesOf] at h; subst h; simp
  | (k, v) :: es, s, h => by
    unfold sizesOf at h
    split at h <;> simp at h
    rename_i n m h1 h2
    subst h
    obtain ⟨a, b⟩ := sizesOf_sum h2
    refine ⟨fun e he => ?_, by rw [List.map_cons, List.sum_cons, b]; simp [szOf, h1]⟩
    rcases List.mem_cons.1 he with rfl | he
    · exact ⟨n, h1⟩
    · exact a e he

/-- What is so in the loop: the room that is left. -/
def roomI (H Hk : AHeap) (most : Nat) (d : List (Value × AVal)) (T : Fr) (H1 : AHeap) : Prop :=
  H1 = Hk ∧ slot T 3 = .prim (.int .i64 ((most - (d.map fun e => szOf H e.2).sum : Nat) : Int))

theorem room_round {cl : Callee} {H : AHeap} {m most s : Nat} {es : List (Value × AVal)} (hm : H.get m = some (.map es)) (hs : sizesOf H es = some s) (hle : s ≤ most) (hlt : most < 4611686018427387904) {r : Nat}
    {d : List (Value × AVal)} {k : Value} {v : AVal} {rest : List (Value × AVal)} {T : Fr} {H1 : AHeap} (hp : (d ++ (k, v) :: rest).Perm es) (hI : roomI H (H.kill m) most d T H1) (hit : slot T 22 = itv r) :
    Run (aveq 5) cl (.seq (.ops roomS6) roomA7) (roomLoop.at T k v) H1 fun e T' H' => e = .normal ∧ roomI H (H.kill m) most (d ++ [(k, v)]) T' H' ∧ slot T' 22 = itv r := by
  obtain ⟨rfl, h3⟩ := hI
  obtain ⟨hall, hsum⟩ := sizesOf_sum hs
  have hmem : (k, v) ∈ es := hp.mem_iff.1 (by simp)
  obtain ⟨n, hn⟩ := hall _ hmem
  simp only at hn
  have hsum2 : ((d ++ (k, v) :: rest).map fun e => szOf H e.2).sum = s := by rw [← hsum]; exact (hp.map _).sum_nat
  simp only [List.map_append, List.map_cons, List.sum_append, List.sum_cons] at hsum2
  have hszv : szOf H v = n := by simp [szOf, hn]
  rw [hszv] at hsum2
  generalize hd : (d.map fun e => szOf H e.2).sum = sd at *
  have hd2 : ((d ++ [(k, v)]).map fun e => szOf H e.2).sum = sd + n := by simp [hd, hszv]
  have hw := wrapF_in (((most - sd : Nat) : Int) - (n : Int)) (by omega)
  have he : ((most - sd : Nat) : Int) - (n : Int) = ((most - (sd + n) : Nat) : Int) := by omega
  rw [he] at hw
  have key : ∃ fb, v = .ptr fb 0 ∧ fb ≠ m ∧ ((∃ b o st cap l, H.get fb = some (.cells (.slice b o n st cap :: l))) ∨ ∃ a c l, H.get fb = some (.cells (.prim (.slice a n c) :: l))) := by
    unfold sizeOf at hn
    split at hn <;> try (cases hn; done)
    rename_i fb
    split at hn <;> try (cases hn; done)
    · rename_i b o n' st cap l hg
      cases hn
      exact ⟨fb, rfl, fun e => (by rw [e, hm] at hg; cases hg), .inl ⟨_, _, _, _, _, hg⟩⟩
    · rename_i a n' c l hg
      cases hn
      exact ⟨fb, rfl, fun e => (by rw [e, hm] at hg; cases hg), .inr ⟨_, _, _, hg⟩⟩
  obtain ⟨fb, rfl, hne, hg⟩ := key
  have hkill : ∀ l, H.get fb = some (.cells l) → (H.kill m).get fb = some (.cells l) := fun l hl => by rw [AHeap.get_kill, if_neg hne]; exact hl
  unfold roomI roomS6 roomA7 MapLoop.at
  simp only [roomLoop]
  rcases hg with ⟨b, o, st, cap, l, hg⟩ | ⟨a, c, l, hg⟩
  · simp only [h3, hit, hkill _ hg, hd2, he, hw, Run_seq, Run_ops, Then_normal, runSteps, runStep, wanted, stepOp, AOp.kind, pureOp, readOp, slot_aput, aeval, abin, aint, anilCheck, afieldAddr, aextract, alenSl, aload, apart,
    int, onSteps_some, Option.map_some, List.getElem?_cons_zero, List.getElem?_cons_succ, reduceIte, and_self, true_and, Nat.reduceEqDiff, Nat.add_zero, ]
  · simp only [h3, hit, hkill _ hg, hd2, he, hw, Run_seq, Run_ops, Then_normal, runSteps, runStep, wanted, stepOp, AOp.kind, pureOp, readOp, slot_aput, aeval, abin, aint, anilCheck, afieldAddr, aextract, alenSl, aload, apart,
    int, onSteps_some, Option.map_some, List.getElem?_cons_zero, List.getElem?_cons_succ, reduceIte, and_self, true_and, Nat.reduceEqDiff, Nat.add_zero, ]

theorem room_ok : OnceOk Tryz.prog 149 xRoom2 := by
  intro args H v H' hx γ w args' hw ha
  unfold xRoom2 at hx
  split at hx <;> try (cases hx; done)
  rename_i b
  split at hx <;> try (cases hx; done)
  rename_i most x1 x2 m hb
  split at hx <;> try (cases hx; done)
  rename_i es hm
  split at hx <;> try (cases hx; done)
  rename_i s hs
  split at hx <;> try (cases hx; done)
  rename_i g1 g2
  have hle : s ≤ most := by simpa using g1
  have hlt : most < 4611686018427387904 := by simpa using g2
  have hv : v = .prim (.int .i64 ((most - s : Nat) : Int)) := by simp at hx; exact hx.1.symm
  have hH : H' = H := by simp at hx; exact hx.2.symm
  subst hv
  subst hH
  clear hx
  refine back_of_wp Tryz.func149 (by kernel_rfl) (c := roomC) (by kernel_rfl) ha fun a0 hfr hN hdf => ?_
  have hN : 35 ≤ a0.tmps.size := hN
  have heqv := aveq_sound 5
  generalize hQ : bodyPost Tryz.prog Tryz.f149 _ = Q
  have e1 : roomC = .seq (codeL roomC) (.seq (codeL (codeR roomC)) (.seq (codeL (codeR (codeR roomC))) (.seq (.seq (codeL roomD) (.block 0 (.loop roomB))) roomE))) := by kernel_rfl
  rw [e1]
  have r1 : Run (aveq 5) noCallee (.ops [⟨some 2, .move (.const (.int .i64 (.ofNat 0))), none⟩]) (argFrame [.ptr b 0] 0 .leaf) H' fun e T1 H1 => e = .normal ∧ H1 = H' ∧ slot T1 0 = .ptr b 0 := by
    simp only [Run_ops, argFrame,
    runSteps, runStep, wanted, stepOp, AOp.kind, pureOp, slot_aput, aeval, onSteps_some, Option.map_some, reduceIte, and_self, true_and, reduceCtorEq,
    Int.ofNat_eq_natCast, Int.cast_ofNat_Int, ]
  obtain ⟨k1, e1, T1, H1, x1, rfl, rfl, s1⟩ := r1
  refine wp_seq ((exec_wp orders heqv (noCallee_ok _) k1).1 _ _ _ _ _ _ _ _ _ _ _ (by kernel_rfl) (by kernel_rfl) hN x1 hw hfr fun a1 w1 hf1 => ?_)
  obtain ⟨γ1, p1, p2, p3, p4, p5⟩ := hf1
  have r2 : Run (aveq 5) noCallee (.seq (.ops [⟨(some 6), .move (.tmp 0), none⟩, ⟨(some 7), .bin .eql (some .ptr) (.tmp 6) (.const (.pointer none)), none⟩, ⟨(some 8), .move (.tmp 7), none⟩, ⟨(some 9), .move (.tmp 0), (some (8, false))⟩, ⟨(some 10), .nilCheck (.tmp 9), (some (8, false))⟩, ⟨(some 11), .field 3 (.tmp 10), (some (8, false))⟩, ⟨(some 12), .load none (.tmp 11), (some (8, false))⟩, ⟨(some 13), .pick (.tmp 8) (.const (.bool true)) (.tmp 12), none⟩]) (.cond (.tmp 13) (.seq (.ops [⟨(some 2), .move (.const (.int .i64 (.ofNat 0))), none⟩]) (.ret)) (.skip))) T1 H1 fun e T2 H2 => e = .normal ∧ H2 = H1 ∧ slot T2 0 = .ptr b 0 := by
    simp only [s1, hb, Run_seq, Run_ops, Run_cond, Run_skip, Run_ret, Then_normal, runSteps, runStep, wanted, stepOp, AOp.kind, pureOp, readOp, slot_aput, aeval, abin, aeql, anilCheck, afieldAddr, aload, apart,
    abool, onSteps_some, onBool_false, Option.map_some, List.getElem?_cons_zero, List.getElem?_cons_succ, reduceIte, and_self, true_and, false_and, beq_self_eq_true, reduceCtorEq,
    Nat.reduceEqDiff, Nat.zero_add, Int.ofNat_eq_natCast, Int.cast_ofNat_Int, ]
  obtain ⟨k2, e2, T2, H2, x2, rfl, rfl, s2⟩ := r2
  refine wp_seq ((exec_wp orders heqv (noCallee_ok _) k2).1 _ _ _ _ _ _ _ _ _ _ _ (by kernel_rfl) (by kernel_rfl) (by rw [p4]; exact hN) x2 p2 p1 fun a2 w2 hf2 => ?_)
  obtain ⟨γ2, q1, q2, q3, q4, q5⟩ := hf2
  have r3 : Run (aveq 5) noCallee (.ops [⟨(some 14), .move (.tmp 0), none⟩, ⟨(some 15), .nilCheck (.tmp 14), none⟩, ⟨(some 16), .field 0 (.tmp 15), none⟩, ⟨(some 17), .load none (.tmp 16), none⟩, ⟨(some 3), .move (.tmp 17), none⟩]) T2 H2 fun e T3 H3 => e = .normal ∧ H3 = H2 ∧ slot T3 0 = .ptr b 0 ∧ slot T3 3 = .prim (.int .i64 (most : Int)) := by
    simp only [s2, hb, Run_ops, runSteps, runStep, wanted, stepOp, AOp.kind, pureOp, readOp, slot_aput, aeval, anilCheck, afieldAddr, aload, apart,
    onSteps_some, Option.map_some, List.getElem?_cons_zero, reduceIte, and_self, true_and, reduceCtorEq,
    Nat.reduceEqDiff, Nat.add_zero, Int.ofNat_eq_natCast, ]
  obtain ⟨k3, e3, T3, H3, x3, rfl, rfl, s3, s3'⟩ := r3
  refine wp_seq ((exec_wp orders heqv (noCallee_ok _) k3).1 _ _ _ _ _ _ _ _ _ _ _ (by kernel_rfl) (by kernel_rfl) (by rw [q4, p4]; exact hN) x3 q2 q1 fun a3 w3 hf3 => ?_)
  obtain ⟨γ3, m1, m2, m3, m4, m5⟩ := hf3
  have hst3 := (p3.trans q3).trans m3
  have hN3 : 35 ≤ a3.tmps.size := by rw [m4, q4, p4]; exact hN
  have hdf3 : a3.defers = [] := by rw [m5, q5, p5]; exact hdf
  have e4 : codeL roomD = .region (codeId (codeL roomD)) (codeArr (codeL roomD)) false := by kernel_rfl
  have e5 : (codeArr (codeL roomD)).toList = (codeOps (codeL roomD)).take 4 ++ [opAt (codeL roomD) 4] := by kernel_rfl
  refine wp_seq (wp_seq ?_)
  rw [e4]
  refine wp_region_list ?_
  rw [e5]
  have r4 : ∃ T4, runSteps noCallee [⟨(some 18), .move (.tmp 0), none⟩, ⟨(some 19), .nilCheck (.tmp 18), none⟩, ⟨(some 20), .field 4 (.tmp 19), none⟩, ⟨(some 21), .load none (.tmp 20), none⟩] T3 H3 = some (T4, H3) ∧ slot T4 21 = .map m ∧ slot T4 3 = .prim (.int .i64 (most : Int)) := by
    simp only [s3, s3', hb, Option.some.injEq, Prod.mk.injEq, and_true, exists_eq_left', runSteps, runStep, wanted, stepOp, AOp.kind, pureOp, readOp, slot_aput, aeval, anilCheck, afieldAddr, aload, apart,
    Option.map_some, List.getElem?_cons_zero, List.getElem?_cons_succ, reduceIte, and_self, and_true, Nat.reduceEqDiff, Nat.zero_add, Int.ofNat_eq_natCast, ]
  obtain ⟨T4, x4, s4, s4'⟩ := r4
  refine steps_wp_app (noCallee_ok _) _ _ (by kernel_rfl) x4 m2 m1 (fun o ho d hd => ?_) fun a4 w4 hf4 => ?_
  · have hall : ((codeOps (codeL roomD)).take 4).all (fun o => match o.dst with | some d => Nat.blt d 35 | none => true) = true := by kernel_rfl
    rw [List.all_eq_true] at hall
    have := hall o ho
    rw [hd] at this
    have h1 : d < 35 := by simpa using this
    exact Nat.lt_of_lt_of_le h1 hN3
  obtain ⟨γ4, n1, n2, n3, n4, n5⟩ := hf4
  have hst4 := hst3.trans n3
  refine MapLoop.wp orders heqv (noCallee_ok _) roomLoop (x := 21) Tryz.underlying125 (by kernel_rfl) (by kernel_rfl) (by kernel_rfl) (by decide) (by rw [n4]; exact hN3) n1 n2 s4 hm
    (I := roomI H3 (H3.kill m) most) (fun r => ⟨rfl, ?_⟩) (fun r d k v rest T H hp hI hit => room_round hm hs hle hlt hp hI hit) ?_
  · rw [slot_aput, if_neg (by decide)]; exact s4'
  rintro T5 H5 d r a5 w5 hp ⟨rfl, h53⟩ hit5 ⟨γ5, o1, o2, o3, o4, o5⟩
  have hsum : (d.map fun e => szOf H3 e.2).sum = s := by rw [← (sizesOf_sum hs).2]; exact (hp.map _).sum_nat
  rw [hsum] at h53
  have halike : (((H3.kill m).set m (.map es))).Alike H3 := by
    refine ⟨by simp, fun c => ?_⟩
    rw [AHeap.get_set, AHeap.get_kill]
    by_cases hc : c = m
    · rw [if_pos hc, hc, hm]
    · rw [if_neg hc, if_neg hc]
  have hst5 := (hst4.trans o3).alike halike
  have hrw5 := o2.alike halike
  have r6 : Run (aveq 5) noCallee (.seq (.ops [⟨(some 34), .move (.tmp 3), none⟩, ⟨(some 2), .move (.tmp 34), none⟩]) (.ret)) (roomLoop.off T5) H3 fun e T6 H6 => e = .ret ∧ H6 = H3 ∧ slot T6 2 = .prim (.int .i64 ((most - s : Nat) : Int)) := by
    unfold MapLoop.off
    simp only [roomLoop, h53, Run_seq, Run_ops, Run_ret, Then_normal, runSteps, runStep, wanted, stepOp, AOp.kind, pureOp, slot_aput, aeval, onSteps_some, Option.map_some, reduceIte, and_self, true_and, Nat.reduceEqDiff, ]
  obtain ⟨k6, e6, T6, H6, x6, rfl, rfl, s6⟩ := r6
  show Code.wp _ roomE Q a5 w5
  refine (exec_wp orders heqv (noCallee_ok _) k6).1 _ _ _ _ _ _ _ _ _ _ _ (by kernel_rfl) (by kernel_rfl) (by rw [o4, n4]; exact hN3) x6 hrw5 o1 fun a6 w6 hf6 => ?_
  obtain ⟨γ6, z1, z2, z3, z4, z5⟩ := hf6
  rw [← hQ]
  exact end_of_results z2 z1 (by rw [z5, o5, n5]; exact hdf3) (rs := [.tmp 2]) (vs := [slot T6 2]) (by kernel_rfl) rfl fun v' hv' => ⟨γ6, by rw [← s6]; exact hv', z2, hst5.trans z3⟩
end Code
end Go.AM
