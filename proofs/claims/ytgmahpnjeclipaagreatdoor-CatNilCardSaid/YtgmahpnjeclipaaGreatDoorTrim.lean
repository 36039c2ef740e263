/- What bytes.trimRightByte, crc's Add answer, as functions that are answered at once. Over the program's given form. -/
import Derived.Test.YtgmahpnjeclipaaGreatDoorCrc
namespace Go.AM.Code
set_option maxRecDepth 100000
set_option maxHeartbeats 4000000

/-- How long a text is without some bytes at its end (the text backwards). -/
def trimR (c : Nat) : List Nat → Nat
  | [] => 0
  | x :: l =>
    match Nat.beq x c with
    | true => trimR c l
    | false => l.length + 1

/-- Cells as bytes. -/
def byteNs : List AVal → Option (List Nat)
  | [] => some []
  | .prim (.int .u8 (.ofNat n)) :: rest =>
    match Nat.blt n 256, byteNs rest with
    | true, some l => some (n :: l)
    | _, _ => none
  | _ :: _ => none

theorem byteNs_get : ∀ {l : List AVal} {ns : List Nat}, byteNs l = some ns → l.length = ns.length ∧ ∀ i, i < ns.length → ∃ n, ns[i]? = some n ∧ n < 256 ∧ l[i]? = some (.prim (.int .u8 (n : Int)))
  | [], ns, h => by simp [byteNs] at h; subst h; simp
  | x :: l, ns, h => by
    unfold byteNs at h
    split at h
    · rename_i heq; cases heq
    · rename_i n rest heq
      cases heq
      split at h <;> simp at h
      rename_i l' h1 h2
      subst h
      obtain ⟨e, ih⟩ := byteNs_get h2
      refine ⟨by simp [e], fun i hi => ?_⟩
      cases i with
      | zero => exact ⟨n, rfl, by simpa using h1, rfl⟩
      | succ i => simpa using ih i (by simpa using hi)
    · cases h

theorem byteNs_slice {H : AHeap} {b off len : Nat} {cap : Option Nat} {l : List AVal} {ns : List Nat} (h : sliceCells (.slice b off len 1 cap) 1 H = some l) (hn : byteNs l = some ns) :
    ∃ cells, H.get b = some (.cells cells) ∧ off + len ≤ cells.length ∧ ns.length = len ∧ ∀ i, i < len → ∃ n, ns[i]? = some n ∧ n < 256 ∧ cells[off + i]? = some (.prim (.int .u8 (n : Int))) := by
  unfold sliceCells at h
  simp only at h
  split at h
  · rename_i cells hg
    split at h <;> simp at h
    rename_i hle
    obtain ⟨_, hle⟩ := hle
    obtain ⟨e, ih⟩ := byteNs_get hn
    have hl : ns.length = len := by rw [← e, ← h]; simp; omega
    refine ⟨cells, hg, by omega, hl, fun i hi => ?_⟩
    obtain ⟨n, h1, h2, h3⟩ := ih i (by omega)
    refine ⟨n, h1, h2, ?_⟩
    rw [← h, List.getElem?_take, if_pos (by omega), List.getElem?_drop] at h3
    exact h3
  · cases h

theorem trim_run {cl : Callee} {eqv : Eqv} {H : AHeap} {b off len : Nat} {cap : Option Nat} {c : Nat} {cells : List AVal} {ns : List Nat}
    (hb : H.get b = some (.cells cells)) (hcap : len ≤ cap.getD len) (hl : len < 9223372036854775808) (hns : ns.length = len)
    (hbs : ∀ i, i < len → ∃ n, ns[i]? = some n ∧ n < 256 ∧ cells[off + i]? = some (.prim (.int .u8 (n : Int)))) :
    Run eqv cl a238.code (argFrame [.slice b off len 1 cap, .prim (.int .u8 (c : Int))] 0 .leaf) H
      (Done a238.results fun r H' => r = .slice b off (trimR c ns.reverse) 1 cap ∧ H' = H) := by
  unfold a238
  simp only [Run_seq, Run_ops, Run_block, Then_normal, argFrame,
    runSteps, runStep, wanted, stepOp, AOp.kind, pureOp, aeval, onSteps_some, Option.map_some, Nat.zero_add, Int.ofNat_eq_natCast, Int.cast_ofNat_Int, ]
  refine Run.loop (n := len) (fun n T Hc => n ≤ len ∧ slot T 0 = .slice b off n 1 cap ∧ slot T 1 = .prim (.int .u8 (c : Int)) ∧ Hc = H ∧ trimR c (ns.take n).reverse = trimR c ns.reverse) ?_ ?_
  · rintro n T Hc ⟨hn, h0, h1, rfl, he⟩
    rcases Nat.eq_zero_or_pos n with h | h
    · subst h
      have he' : trimR c ns.reverse = 0 := by rw [← he]; rfl
      simp only [h0, he', Run_seq, Run_ops, Run_block, Run_cond, Run_skip, Run_ret, Run_exit, Then_normal, Then_exit, Past_normal, Past_exit, Done_ret, onRes_some, results, result, asOne, runSteps, runStep, wanted, stepOp, AOp.kind, pureOp, slot_aput, aeval, abin, aint, alenSl, int, abool, onSteps_some, onBool_false, iltF_eq, Option.map_some, Option.map_none, reduceIte, and_self, bool_beq_true, decide_false, reduceCtorEq,
    Nat.reduceEqDiff, Int.cast_ofNat_Int, Int.reduceSub, Int.reduceNeg, Int.lt_irrefl]
    · obtain ⟨m, rfl⟩ : ∃ m, n = m + 1 := ⟨n - 1, by omega⟩
      obtain ⟨x, x1, x2, x3⟩ := hbs m (by omega)
      have hp : (0 : Int) < ((m + 1 : Nat) : Int) := by omega
      have hw : wrapF .i64 (((m + 1 : Nat) : Int) - 1) = (m : Int) := by rw [wrapF_in _ (by omega)]; omega
      have hm : (m : Int) < ((m + 1 : Nat) : Int) := by omega
      have htk : (ns.take (m + 1)).reverse = x :: (ns.take m).reverse := by rw [List.take_add_one, x1]; simp
      rw [htk] at he
      have hcm : ∀ k, cap = some k → m ≤ k := fun k hk => by rw [hk] at hcap; simp at hcap; omega
      have hgd : m ≤ cap.getD (m + 1) := by cases cap with | none => simp | some k => simpa using hcm k rfl
      have hmap : cap.map (fun x => x - 0) = cap := by cases cap <;> simp
      by_cases hx : x = c
      · subst hx
        have ht : trimR x (x :: (ns.take m).reverse) = trimR x (ns.take m).reverse := by simp [trimR]
        rw [ht] at he
        simp only [h0, h1, hb, hp, hw, hm, x3, hgd, aslice, abound, Option.map_some, Option.map_none, Nat.sub_zero, Nat.zero_le, Run_seq, Run_ops, Run_block, Run_cond, Run_skip, Run_ret, Run_exit, Then_normal, Then_exit, Past_normal, Past_exit, Done_ret, onRes_some, results, result, asOne, runSteps, runStep, wanted, stepOp, AOp.kind, pureOp, readOp, slot_aput, aeval, abin, aint, aindexSl, alenSl, aload, apart,
    int, abool, nilSlice, onSteps_some, onBool_true, iltF_eq, ieqF_eq, Option.map_some, Option.map_none, reduceIte, and_self, and_true, true_and, beq_self_eq_true, decide_true, reduceCtorEq,
    Nat.reduceEqDiff, Nat.add_zero, Nat.mul_one, Int.natCast_nonneg, Int.toNat_natCast, ]
        exact ⟨m, by omega, by omega, by simp, he⟩
      · have ht : trimR c (x :: (ns.take m).reverse) = m + 1 := by
          have : Nat.beq x c = false := by cases hh : Nat.beq x c with | false => rfl | true => exact absurd (Nat.eq_of_beq_eq_true hh) hx
          simp [trimR, this]; omega
        rw [ht] at he
        have hxc : ¬ ((x : Int) = (c : Int)) := by omega
        have hxb : ((x : Int) == (c : Int)) = false := by simpa using hxc
        simp only [h0, h1, hb, hp, hw, hm, x3, hxb, ← he, Run_seq, Run_ops, Run_block, Run_cond, Run_skip, Run_ret, Run_exit, Then_normal, Then_exit, Past_normal, Past_exit, Done_ret, onRes_some, results, result, asOne, runSteps, runStep, wanted, stepOp, AOp.kind, pureOp, readOp, slot_aput, aeval, abin, aint, aindexSl, alenSl, aload, apart,
    int, abool, onSteps_some, onBool_false, iltF_eq, ieqF_eq, Option.map_some, Option.map_none, reduceIte, and_self, beq_self_eq_true, decide_true, reduceCtorEq,
    Nat.reduceEqDiff, Nat.mul_one, Int.natCast_nonneg, Int.toNat_natCast, ]
  · refine ⟨Nat.le_refl _, ?_, ?_, rfl, by rw [← hns, List.take_length]⟩ <;> simp only [slot_aput, reduceIte, reduceCtorEq,
    Nat.reduceEqDiff, ]
end Go.AM.Code
