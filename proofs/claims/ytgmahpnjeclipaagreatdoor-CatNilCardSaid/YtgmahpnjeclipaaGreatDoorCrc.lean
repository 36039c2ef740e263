import Derived.Test.YtgmahpnjeclipaaGreatDoorCoT
import Derived.Test.YtgmahpnjeclipaaGreatDoorLo3
import Derived.Test.YtgmahpnjeclipaaGreatDoorAm26
namespace Go.AM.Code
set_option maxRecDepth 100000
set_option maxHeartbeats 4000000

def crcStep (t : List Nat) (v : Nat) : Nat := Nat.xor (v / 16) (t.getD (v % 16) 0)
def crcFold (t : List Nat) : List UInt8 → Nat → Nat
  | [], v => v
  | c :: l, v => forceN (crcStep t (crcStep t (Nat.xor v c.toNat))) fun v => crcFold t l v

theorem crcFold_append (t : List Nat) : ∀ (a b : List UInt8) (v : Nat), crcFold t (a ++ b) v = crcFold t b (crcFold t a v)
  | [], _, _ => rfl
  | c :: a, b, v => by simp only [List.cons_append, crcFold, forceN_eq]; exact crcFold_append t a b _

/-- The tables that are fit. -/
def TabOk (t : List Nat) (l : List AVal) : Prop := ∀ i, i < 16 → ∃ m, t[i]? = some m ∧ m < 4294967296 ∧ l[i]? = some (.prim (.int .u32 (m : Int)))

theorem crcStep_lt {t : List Nat} {l : List AVal} (h : TabOk t l) {v : Nat} (hv : v < 4294967296) : crcStep t v < 4294967296 := by
  obtain ⟨m, h1, h2, _⟩ := h (v % 16) (by omega)
  simp only [crcStep, List.getD_eq_getElem?_getD, h1, Option.getD_some]
  exact Nat.xor_lt_two_pow (n := 32) (by omega) h2

theorem TabOk.set {t : List Nat} {l : List AVal} (h : TabOk t l) {j : Nat} (hj : 16 ≤ j) (v : AVal) : TabOk t (l.set j v) := fun i hi => by
  obtain ⟨m, h1, h2, h3⟩ := h i hi
  exact ⟨m, h1, h2, by rw [List.getElem?_set_ne (by omega)]; exact h3⟩

theorem and15 (n : Nat) (h : n < 4294967296) : iandF .u32 (n : Int) ((15 : Nat) : Int) = ((n % 16 : Nat) : Int) := by
  rw [iandF_nat .u32 n 15 h (by decide), Nat.and_two_pow_sub_one_eq_mod n 4]

/-- bytes of a list -/
theorem bytesOf_get : ∀ {l : List AVal} {bs : List UInt8}, bytesOf l = some bs → ∀ i, i < bs.length → ∃ c n, bs[i]? = some c ∧ l[i]? = some (.prim (.int .u8 n)) ∧ c = UInt8.ofNat n.toNat
  | [], bs, h, i, hi => by simp [bytesOf] at h; subst h; simp at hi
  | x :: l, bs, h, i, hi => by
    unfold bytesOf at h
    split at h
    · rename_i heq; cases heq
    · rename_i n rest heq
      cases heq
      split at h <;> simp at h
      rename_i b' hb'
      subst h
      cases i with
      | zero => exact ⟨_, n, rfl, rfl, rfl⟩
      | succ i => simpa using bytesOf_get hb' i (by simpa using hi)
    · cases h

theorem crcAdd_run {cl : Callee} {eqv : Eqv} {H : AHeap} {s b off len : Nat} {cap : Option Nat} {t : List Nat} {l cells : List AVal} {v : Nat} {k : Int} {bs : List UInt8}
    (hH : H.get s = some (.cells l)) (ht : TabOk t l) (hl : l[16]? = some (.prim (.int .u32 (v : Int)))) (hv : v < 4294967296) (hk : l[17]? = some (.prim (.int .i64 k)))
    (hk2 : 0 ≤ k ∧ k + bs.length < 9223372036854775808) (hb : H.get b = some (.cells cells)) (hne : b ≠ s) (hbl : bs.length = len) (hoff : off + len ≤ cells.length)
    (hbs : ∀ i, i < len → ∃ c, bs[i]? = some c ∧ cells[off + i]? = some (.prim (.int .u8 (c.toNat : Int)))) :
    Run eqv cl a232.code (argFrame [.ptr s 0, .slice b off len 1 cap] 0 .leaf) H
      (Done a232.results fun r H' => r = .tuple [] ∧ (H.set s (.cells ((l.set 16 (.prim (.int .u32 (crcFold t bs v : Nat)))).set 17 (.prim (.int .i64 (k + bs.length)))))).Alike H') := by
  unfold a232
  simp only [Run_seq, Run_ops, Run_block, Run_cond, Run_skip, Run_ret, Then_normal, Then_ret, Done_ret, onRes_some, results, asOne, argFrame,
    runSteps, runStep, wanted, stepOp, AOp.kind, pureOp, slot_aput, aeval, abin, aeql, alenSl, int, abool, onSteps_some, onBool_false, Option.map_some, reduceIte, true_and, reduceCtorEq,
    Nat.reduceEqDiff, Nat.zero_add, Int.ofNat_eq_natCast, Int.cast_ofNat_Int, ]
  have hlen : 17 < l.length := (List.getElem?_eq_some_iff.1 hk).1
  have hlen' : 16 < l.length := by omega
  refine Run.loop (n := len) (fun n T Hc => ∃ i, n + i = len ∧ slot T 0 = .ptr s 0 ∧ slot T 1 = .slice b off len 1 cap ∧ slot T 8 = .slice b off len 1 cap ∧ slot T 9 = .prim (.int .i64 (len : Int)) ∧
    slot T 10 = .prim (.int .i64 (i : Int)) ∧ crcFold t (bs.take i) v < 4294967296 ∧ (H.set s (.cells (l.set 16 (.prim (.int .u32 (crcFold t (bs.take i) v : Nat)))))).Alike Hc) ?_ ?_
  · rintro n T Hc ⟨i, hi, h0, h1, h8, h9, h10, hlt, he, hg⟩
    have hgs := hg s
    have hgb := hg b
    rw [AHeap.get_set, if_pos rfl] at hgs
    rw [AHeap.get_set, if_neg hne, hb] at hgb
    rcases Nat.eq_zero_or_pos n with hn | hn
    · subst hn
      have hi' : i = len := by omega
      subst hi'
      have hw := wrapF_in (k + (bs.length : Int)) (by omega)
      rw [hbl] at hw
      simp only [h0, h1, h8, h9, h10, ← hgs, hlen, hk, hw, List.getElem?_set_ne, Run_seq, Run_ops, Run_drawn, Run_block, Run_cond, Run_skip, Run_exit, Then_normal, Then_exit, Past_normal, Past_exit, Done_normal, onRes_some, results, asOne, runSteps, runDrawn, recheck, runStep, wanted, stepOp, AOp.kind, pureOp, readOp, effOp, thenUnit, slot_aput, aeval, abin, aint, ashift, aconv, anilCheck, afieldAddr, aindexArr, aindexSl, alenSl, aload, apart,
    astore_int, store1, int, abool, onSteps_some, onBool_false, iltF_eq, Option.map_some, Option.map_none, IntKind.bits, List.length_set, reduceIte, ne_eq, not_false_eq_true, true_and, and_false, decide_false, reduceCtorEq,
    Nat.reduceEqDiff, Nat.pow_eq, Nat.zero_add, Nat.add_zero, Nat.mul_one, Nat.min_def,
    Int.ofNat_eq_natCast, Int.cast_ofNat_Int, Int.natCast_nonneg, Int.toNat_natCast, Int.lt_irrefl]
      refine ⟨by simpa using he, fun c => ?_⟩
      have := hg c
      simp only [AHeap.get_set] at this ⊢
      by_cases hc : c = s
      · subst hc
        simp only [if_pos]
        rw [← hbl, List.take_length]
      · rw [if_neg hc] at this ⊢
        rw [if_neg hc, this]
    · have hi2 : i < len := by omega
      obtain ⟨c, hc1, hc2⟩ := hbs i hi2
      have hlt3 : (i : Int) < (len : Int) := by omega
      have hcl : c.toNat < 256 := c.toNat_lt
      have hwi := wrapF_in ((i : Int) + 1) (by omega)
      have hwc := wrapF_nat .u32 c.toNat (show _ < 4294967296 by omega)
      generalize hx : crcFold t (bs.take i) v = x at *
      have hx1 := ixorF_nat .u32 x c.toNat hlt (show _ < 4294967296 by omega)
      have hy : x ^^^ c.toNat < 4294967296 := Nat.xor_lt_two_pow (n := 32) hlt (by omega)
      generalize hyd : x ^^^ c.toNat = y at *
      obtain ⟨m1, a1, a2, a3⟩ := ht (y % 16) (by omega)
      have hs4 := fdiv_nat y 16
      have ha4 := and15 y hy
      have hx4 := ixorF_nat .u32 (y / 16) m1 (show _ < 4294967296 by omega) a2
      have hz : y / 16 ^^^ m1 < 4294967296 := Nat.xor_lt_two_pow (n := 32) (by omega) a2
      have hzd : crcStep t y = y / 16 ^^^ m1 := by simp only [crcStep, List.getD_eq_getElem?_getD, a1, Option.getD_some]; rfl
      generalize hzd2 : y / 16 ^^^ m1 = z at *
      obtain ⟨m2, b1, b2, b3⟩ := ht (z % 16) (by omega)
      have hs5 := fdiv_nat z 16
      have ha5 := and15 z hz
      have hx5 := ixorF_nat .u32 (z / 16) m2 (show _ < 4294967296 by omega) b2
      have hzd3 : crcStep t z = z / 16 ^^^ m2 := by simp only [crcStep, List.getD_eq_getElem?_getD, b1, Option.getD_some]; rfl
      have r1 : ((y % 16 : Nat) : Int) < ((16 : Nat) : Int) := by omega
      have r2 : ((z % 16 : Nat) : Int) < ((16 : Nat) : Int) := by omega
      have e1 : ¬ (16 = y % 16) := by omega
      have e2 : ¬ (16 = z % 16) := by omega
      rw [Int.cast_ofNat_Int] at hs4 ha4 hs5 ha5 r1 r2
      simp only [h0, h1, h8, h9, h10, ← hgs, ← hgb, hlt3, hlen', hc2, hwi, hwc, hx1, hs4, ha4, a3, hx4, hs5, ha5, b3, hx5, r1, r2, e1, e2, List.getElem?_set_self, List.getElem?_set_ne, List.set_set, if_true, Run_seq, Run_ops, Run_drawn, Run_block, Run_cond, Run_skip, Run_exit, Then_normal, Then_exit, Past_normal, Past_exit, runSteps, runDrawn, recheck, runStep, wanted, stepOp, AOp.kind, pureOp, readOp, effOp, thenUnit, slot_aput, slot_aput_none, aeval, abin, aint, ashift, aconv, anilCheck, afieldAddr, aindexArr, aindexSl, alenSl, aload, apart,
    astore_int, store1, int, abool, onSteps_some, onBool_true, iltF_eq, Option.map_some, IntKind.bits, AHeap.get_set, List.length_set, reduceIte, ne_eq, not_false_eq_true, and_self, true_and, decide_true, reduceCtorEq,
    Nat.reduceEqDiff, Nat.reduceLeDiff, Nat.pow_eq, Nat.reducePow, Nat.zero_add, Nat.add_zero, Nat.mul_one, Nat.min_def,
    Int.ofNat_eq_natCast, Int.cast_ofNat_Int, Int.natCast_nonneg, Int.toNat_natCast, ]
      have htk : crcFold t (bs.take (i + 1)) v = z / 16 ^^^ m2 := by
        rw [List.take_add_one, crcFold_append, hx, hc1]
        simp only [Option.toList_some, crcFold, forceN_eq]
        show crcStep t (crcStep t (x ^^^ c.toNat)) = _
        rw [hyd, hzd, hzd3]
      rw [← htk]
      refine ⟨n - 1, by omega, i + 1, by omega, by simp, ?_, by simpa using he, fun c => ?_⟩
      · rw [htk]; exact Nat.xor_lt_two_pow (n := 32) (by omega) b2
      · have := hg c
        simp only [AHeap.get_set] at this ⊢
        by_cases hc : c = s
        · simp only [hc, if_true]
        · rw [if_neg hc] at this ⊢
          simp only [hc, if_false, this]
  · refine ⟨0, by omega, ?_, ?_, ?_, ?_, ?_, hv, by simp only [AHeap.n_set], fun c => ?_⟩
    all_goals simp only [slot_aput, AHeap.get_set, reduceIte, reduceCtorEq,
    Nat.reduceEqDiff, Int.cast_ofNat_Int, ]
    by_cases hc : c = s
    · subst hc
      rw [if_pos rfl, hH]
      simp only [List.take_zero, crcFold]
      congr 2
      refine List.ext_getElem? fun j => ?_
      rw [List.getElem?_set]
      by_cases hj : 16 = j
      · subst hj; rw [if_pos rfl, if_pos hlen', hl]
      · rw [if_neg hj]
    · rw [if_neg hc]
end Go.AM.Code
