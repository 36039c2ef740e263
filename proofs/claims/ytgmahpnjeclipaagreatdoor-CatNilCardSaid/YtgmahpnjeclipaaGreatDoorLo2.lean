/- Small laws for runs of the abstract machine: numbers, cells, heaps that are alike. No condition. -/
import Derived.Test.YtgmahpnjeclipaaGreatDoorLo1
namespace Go.AM

/-! ### Numbers -/
theorem wrapF_nat (k : IntKind) (a : Nat) (h : a < limK k) : wrapF k (a : Int) = a := by
  rw [wrapF_eq]; exact wrap_below k a h

theorem wrapF_in (n : Int) (h : -9223372036854775808 ≤ n ∧ n < 9223372036854775808) : wrapF .i64 n = n := by
  rw [wrapF_eq]; exact IntWalk.i64_in _ (by omega)

theorem iandF_nat (k : IntKind) (a b : Nat) (ha : a < limK k) (hb : b < limK k) : iandF k (a : Int) (b : Int) = ((a &&& b : Nat) : Int) := by
  show bitsF k Nat.land _ (Int.ofNat a) (Int.ofNat b) = _
  simp only [bitsF, show (Nat.blt a (limK k) && Nat.blt b (limK k)) = true by simp [ha, hb], forceN_eq]
  rfl

theorem ixorF_nat (k : IntKind) (a b : Nat) (ha : a < limK k) (hb : b < limK k) : ixorF k (a : Int) (b : Int) = ((a ^^^ b : Nat) : Int) := by
  show bitsF k Nat.xor _ (Int.ofNat a) (Int.ofNat b) = _
  simp only [bitsF, show (Nat.blt a (limK k) && Nat.blt b (limK k)) = true by simp [ha, hb], forceN_eq]
  rfl

theorem iorF_nat (k : IntKind) (a b : Nat) (ha : a < limK k) (hb : b < limK k) : iorF k (a : Int) (b : Int) = ((a ||| b : Nat) : Int) := by
  show bitsF k Nat.lor _ (Int.ofNat a) (Int.ofNat b) = _
  simp only [bitsF, show (Nat.blt a (limK k) && Nat.blt b (limK k)) = true by simp [ha, hb], forceN_eq]
  rfl

theorem fdiv_nat (a b : Nat) : (a : Int).fdiv (b : Int) = ((a / b : Nat) : Int) := by
  rw [Int.fdiv_eq_ediv_of_nonneg _ (by omega)]; rfl

/-! ### Cells -/
theorem lay_one {l : List AVal} {off : Nat} (h : off < l.length) (v : AVal) : l.take off ++ ([v] ++ l.drop (off + 1)) = l.set off v := by
  rw [List.set_eq_take_append_cons_drop, if_pos h]; rfl

theorem astore_one {H : AHeap} {b off : Nat} {l : List AVal} {v : AVal} (hH : H.get b = some (.cells l)) (ho : off < l.length) (hv : v.one = true) :
    astore 1 (.ptr b off) v H = some (H.set b (.cells (l.set off v))) := by
  have hc : v.cells = [v] := by
    cases v <;> simp [AVal.one] at hv <;> simp [AVal.cells]
    rename_i w
    cases w <;> simp [vone] at hv <;> simp [Value.cells]
  simp only [astore, hc, List.length_singleton, if_true, layCells, hH, List.all_cons, hv, List.all_nil, Bool.and_true, and_true]
  rw [if_pos (by omega)]
  congr 3
  exact lay_one ho v

theorem one_int (k : IntKind) (n : Int) : (AVal.prim (.int k n)).one = true := rfl
theorem one_bool (b : Bool) : (AVal.prim (.bool b)).one = true := rfl
theorem one_str (s : ByteArray) : (AVal.prim (.string s)).one = true := rfl
theorem one_pnil (a : Option Addr) : (AVal.prim (.pointer a)).one = true := rfl
theorem one_snil (a : Option Addr) (n k : Nat) : (AVal.prim (.slice a n k)).one = true := rfl
theorem one_mnil (m : Option Nat) : (AVal.prim (.map m)).one = true := rfl
theorem one_fnil : (AVal.prim .nilFunc).one = true := rfl
theorem one_ptr (b o : Nat) : (AVal.ptr b o).one = true := rfl
theorem one_slice (b o n s : Nat) (c : Option Nat) : (AVal.slice b o n s c).one = true := rfl
theorem one_map (r : Nat) : (AVal.map r).one = true := rfl
theorem one_func (f : FuncId) (a b : List AVal) : (AVal.func f a b).one = true := rfl

/-- A store of one cell. -/
def store1 (H : AHeap) (b off : Nat) (v : AVal) : Option AHeap :=
  match H.get b with
  | some (.cells l) => if off < l.length then some (H.set b (.cells (l.set off v))) else none
  | _ => none

theorem astore_eq {H : AHeap} {b off : Nat} {v : AVal} (hv : v.one = true) : astore 1 (.ptr b off) v H = store1 H b off v := by
  unfold store1
  split
  · rename_i l hH
    split
    · rename_i h; exact astore_one hH h hv
    · rename_i h
      have hc : v.cells = [v] := by
        cases v <;> simp [AVal.one] at hv <;> simp [AVal.cells]
        rename_i w
        cases w <;> simp [vone] at hv <;> simp [Value.cells]
      simp only [astore, hc, List.length_singleton, if_true, layCells, hH]
      rw [if_neg (by omega)]
  · rename_i h
    have hc : v.cells = [v] := by
      cases v <;> simp [AVal.one] at hv <;> simp [AVal.cells]
      rename_i w
      cases w <;> simp [vone] at hv <;> simp [Value.cells]
    simp only [astore, hc, List.length_singleton, if_true, layCells]

theorem astore_int (H : AHeap) (b off : Nat) (k : IntKind) (n : Int) : astore 1 (.ptr b off) (.prim (.int k n)) H = store1 H b off (.prim (.int k n)) := astore_eq (one_int k n)
theorem astore_bool (H : AHeap) (b off : Nat) (x : Bool) : astore 1 (.ptr b off) (.prim (.bool x)) H = store1 H b off (.prim (.bool x)) := astore_eq (one_bool x)
theorem astore_str (H : AHeap) (b off : Nat) (x : ByteArray) : astore 1 (.ptr b off) (.prim (.string x)) H = store1 H b off (.prim (.string x)) := astore_eq (one_str x)
theorem astore_pnil (H : AHeap) (b off : Nat) (x : Option Addr) : astore 1 (.ptr b off) (.prim (.pointer x)) H = store1 H b off (.prim (.pointer x)) := astore_eq (one_pnil x)
theorem astore_snil (H : AHeap) (b off : Nat) (x : Option Addr) (n k : Nat) : astore 1 (.ptr b off) (.prim (.slice x n k)) H = store1 H b off (.prim (.slice x n k)) := astore_eq (one_snil x n k)
theorem astore_mnil (H : AHeap) (b off : Nat) (x : Option Nat) : astore 1 (.ptr b off) (.prim (.map x)) H = store1 H b off (.prim (.map x)) := astore_eq (one_mnil x)
theorem astore_fnil (H : AHeap) (b off : Nat)  : astore 1 (.ptr b off) (.prim .nilFunc) H = store1 H b off (.prim .nilFunc) := astore_eq (one_fnil )
theorem astore_ptr (H : AHeap) (b off : Nat) (c o : Nat) : astore 1 (.ptr b off) (.ptr c o) H = store1 H b off (.ptr c o) := astore_eq (one_ptr c o)
theorem astore_slice (H : AHeap) (b off : Nat) (c o n t : Nat) (k : Option Nat) : astore 1 (.ptr b off) (.slice c o n t k) H = store1 H b off (.slice c o n t k) := astore_eq (one_slice c o n t k)
theorem astore_map (H : AHeap) (b off : Nat) (r : Nat) : astore 1 (.ptr b off) (.map r) H = store1 H b off (.map r) := astore_eq (one_map r)
theorem astore_func (H : AHeap) (b off : Nat) (f : FuncId) (x y : List AVal) : astore 1 (.ptr b off) (.func f x y) H = store1 H b off (.func f x y) := astore_eq (one_func f x y)

/-! ### Heaps that are alike -/
def AHeap.Alike (H H' : AHeap) : Prop := H.n = H'.n ∧ ∀ b, H.get b = H'.get b

theorem AHeap.Alike.refl (H : AHeap) : H.Alike H := ⟨rfl, fun _ => rfl⟩

theorem Rw.alike {γ : Pl} {H H' : AHeap} {w : World} (h : Rw γ H w) (e : H.Alike H') : Rw γ H' w := by
  obtain ⟨hn, hg⟩ := e
  refine ⟨fun b hb => ?_, fun b p hp => ?_, h.low, fun b c s z o hb ho => h.live b c s z o hb (by rw [hg]; exact ho), fun b b' c s z s' z' o o' h1 h2 h3 h4 => h.inj b b' c s z s' z' o o' h1 h2 (by rw [hg]; exact h3) (by rw [hg]; exact h4)⟩
  · rw [← hg]; exact h.fresh b (by omega)
  · rw [← hn]; exact h.dom b p hp

theorem Stp.alike {γ γ' : Pl} {H H1 H2 : AHeap} {w w' : World} (h : Stp γ γ' H H1 w w') (e2 : H1.Alike H2) : Stp γ γ' H H2 w w' :=
  ⟨h.ext, h.img, by rw [← e2.1]; exact h.hn, fun b hb hn => by rw [← e2.2]; exact h.out b hb hn, h.os, h.tape, h.output, h.size, h.keep, fun b p e hd => by rw [← e2.2]; exact h.dead b p e hd, h.keepM⟩

theorem Post.alike {γ : Pl} {H H1 H2 : AHeap} {v : AVal} {w w' : World} {v' : Value} (h : Post γ H H1 v w v' w') (e : H1.Alike H2) : Post γ H H2 v w v' w' := by
  obtain ⟨γ', a, b, c⟩ := h
  exact ⟨γ', a, b.alike e, c.alike e⟩

end Go.AM
