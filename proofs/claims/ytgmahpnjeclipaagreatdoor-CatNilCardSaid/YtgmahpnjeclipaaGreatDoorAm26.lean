/- Functions without a Go body: Compare, CountString, IndexByteString. Over the program's given form. -/
import Derived.Test.YtgmahpnjeclipaaGreatDoorAm22
import Derived.Laws.Externs
namespace Go.AM
section
variable {P : Program}

theorem loadBytes_run {γ : Pl} {w : World} {c : Nat} {cs : Array Value} {e : TypeId} {fr : Nat × Nat} (h1 : w.heap[c]? = some (.cells cs e fr)) : ∀ (l : List AVal) (off : Nat) (b : List UInt8) (acc : ByteArray),
    rels γ l ((cs.toList.drop off).take l.length) → bytesOf l = some b → (Extern.Bytes.loadBytes ⟨c, off, none⟩ l.length acc).run P w = .ok ⟨(acc.data.toList ++ b).toArray⟩ w
  | [], off, b, acc, _, h => by
    simp [bytesOf] at h
    subst h
    simp [Extern.Bytes.loadBytes]
  | x :: l, off, b, acc, hr, h => by
    unfold bytesOf at h
    split at h
    · rename_i heq; cases heq
    · rename_i n rest heq
      cases heq
      split at h <;> simp at h
      rename_i b' hb'
      subst h
      obtain ⟨v', g1, g2⟩ := rels_get hr 0 _ rfl
      rw [rel_prim] at g2
      subst g2
      have g3 : cs[off]? = some (.int .u8 n) := by simpa using g1
      have ih := loadBytes_run h1 l (off + 1) b' (acc.push (UInt8.ofNat n.toNat)) (by
        have := rels_drop 1 hr
        simpa [List.drop_take, List.drop_drop] using this) hb'
      have hadd : (⟨c, off, none⟩ : Addr).add 1 = ⟨c, off + 1, none⟩ := by simp [Addr.add]
      simp only [List.length_cons, Extern.Bytes.loadBytes, Sem.run_bind, run_load, cell_of h1, g3, Result.andThen_ok, hadd]
      refine Eq.trans ih ?_
      simp [ByteArray.push]
    · cases h

/-- The bytes of a slice. -/
theorem extBytes_run {γ : Pl} {H : AHeap} {w : World} (hw : Rw γ H w) {x : AVal} {x' : Value} (hx : rel γ x x') {l : List AVal} (h : sliceCells x 1 H = some l) {b : List UInt8} (hb : bytesOf l = some b) :
    (Extern.Bytes.bytesOf x').run P w = .ok ⟨b.toArray⟩ w := by
  unfold sliceCells at h
  split at h
  · rename_i bb off len st cap
    split at h
    · rename_i cells hg
      split at h <;> simp at h
      rename_i hle
      obtain ⟨rfl, hle⟩ := hle
      obtain ⟨c, s, z, a, k, e, rfl, hlk, hck, hak, hz⟩ := (by simpa only [rel] using hx)
      obtain ⟨cs, e', lo, hi, h1, h2, h3, h4, h5⟩ := cells_live hw e hg
      have hll : l.length = len := by rw [← h]; simp; omega
      by_cases hk : k = 0
      · have hl0 : len = 0 := by omega
        have : l = [] := List.length_eq_zero_iff.1 (by omega)
        subst this
        simp [bytesOf] at hb
        subst hb
        simp [Extern.Bytes.bytesOf, hl0, Extern.Bytes.loadBytes]
        rfl
      · have ha : a = s + off := hak.resolve_left hk
        subst ha
        have hst := stretch h4 off (len * 1) (by omega)
        rw [h] at hst
        have := loadBytes_run (P := P) h1 l (s + off) b .empty (by rw [hll]; simpa using hst) hb
        rw [hll] at this
        simpa [Extern.Bytes.bytesOf] using this
    · cases h
  · cases h
    rw [rel_prim] at hx
    subst hx
    simp [bytesOf] at hb
    subst hb
    simp [Extern.Bytes.bytesOf]
    rfl
  · cases h

/-- A function that is answered at once. -/
def OnceOk (P : Program) (f : FuncId) (x : XFun) : Prop :=
  ∀ args H v H', x args H = some (v, H') → ∀ γ w (args' : Array Value), Rw γ H w → rels γ args args'.toList → Back P (Post γ H H' v w) ((callFunc f args').run P w)

theorem rels_two {γ : Pl} {x y : AVal} {args' : Array Value} (h : rels γ [x, y] args'.toList) : ∃ x' y', args' = #[x', y'] ∧ rel γ x x' ∧ rel γ y y' := by
  obtain ⟨l⟩ := args'
  match l, h with
  | [x', y'], h =>
    simp only [rels] at h
    exact ⟨x', y', rfl, h.1, h.2.1⟩
  | [], h => simp [rels] at h
  | [_], h => simp [rels] at h
  | _ :: _ :: _ :: _, h => simp [rels] at h

theorem rels_one {γ : Pl} {x : AVal} {args' : Array Value} (h : rels γ [x] args'.toList) : ∃ x', args' = #[x'] ∧ rel γ x x' := by
  obtain ⟨l⟩ := args'
  match l, h with
  | [x'], h =>
    simp only [rels] at h
    exact ⟨x', rfl, h.1⟩
  | [], h => simp [rels] at h
  | _ :: _ :: _, h => simp [rels] at h

/-- A function without a Go body. -/
def Without (P : Program) (f : FuncId) (e : Array Value → Sem Value) : Prop :=
  ∀ (args : Array Value) (w : World), (callFunc f args).run P w = ((e args).run P w).andThen fun v w' => .ok (.value v) w'

theorem compare_eq (a b : Value) : Extern.BytealgCompare.compare #[a, b] = (do
    let x ← Extern.Bytes.bytesOf a
    let y ← Extern.Bytes.bytesOf b
    pure (goInt (Extern.BytealgCompare.cmp x y))) := rfl
theorem count_eq (b c : Value) : Extern.BytealgCount.count #[b, c] = (do
    let b ← Extern.Bytes.bytesOf b
    let c ← Extern.Bytes.asByte c
    pure (goInt (b.foldl (fun n x => if x == c then n + 1 else n) (0 : Nat)))) := rfl

theorem compare_gen {f : FuncId} (he : AM.Without P f Extern.BytealgCompare.compare) : OnceOk P f xCompare := by
  intro args H v H' h γ w args' hw ha
  unfold xCompare at h
  split at h <;> try (cases h; done)
  rename_i a b
  split at h <;> try (cases h; done)
  rename_i x y hx hy
  split at h <;> try (cases h; done)
  rename_i bx by_ hbx hby
  simp only [Option.some.injEq, Prod.mk.injEq] at h
  obtain ⟨rfl, rfl⟩ := h
  obtain ⟨x', y', rfl, r1, r2⟩ := rels_two ha
  rw [he]
  simp only [compare_eq, Sem.run_bind, extBytes_run hw r1 hx hbx, extBytes_run hw r2 hy hby, Result.andThen_ok, Sem.run_pure]
  exact ⟨γ, by simp [int, goInt, rel_prim], hw, Stp.refl _ _ _⟩

theorem count_gen {f : FuncId} (he : AM.Without P f Extern.BytealgCount.count) : OnceOk P f xCount := by
  intro args H v H' h γ w args' hw ha
  unfold xCount at h
  split at h <;> try (cases h; done)
  rename_i s c
  simp only [Option.some.injEq, Prod.mk.injEq] at h
  obtain ⟨rfl, rfl⟩ := h
  obtain ⟨x', y', rfl, r1, r2⟩ := rels_two ha
  rw [rel_prim] at r1 r2
  subst r1
  subst r2
  rw [he]
  simp only [count_eq, Extern.Bytes.bytesOf, Extern.Bytes.asByte, Sem.run_bind, Result.andThen_ok, Sem.run_pure]
  exact ⟨γ, by simp [int, goInt, rel_prim], hw, Stp.refl _ _ _⟩

theorem indexByte_gen {f : FuncId} (he : AM.Without P f Extern.BytealgIndexByte.indexByte) : OnceOk P f xIndexByte := by
  intro args H v H' h γ w args' hw ha
  unfold xIndexByte at h
  split at h <;> try (cases h; done)
  rename_i s c
  simp only [Option.some.injEq, Prod.mk.injEq] at h
  obtain ⟨rfl, rfl⟩ := h
  obtain ⟨x', y', rfl, r1, r2⟩ := rels_two ha
  rw [rel_prim] at r1 r2
  subst r1
  subst r2
  rw [he]
  simp only [run_indexByte_string, Result.andThen_ok]
  exact ⟨γ, by simp [int, rel_prim], hw, Stp.refl _ _ _⟩
end

set_option maxRecDepth 1000000
namespace Code
open Go.Proofs
theorem ext138 : AM.Without Tryz.prog 138 Extern.BytealgCompare.compare := run_callFunc_extern Tryz.func138 (by kernel_rfl) (by kernel_rfl) (by kernel_rfl) (by kernel_rfl)
theorem ext288 : AM.Without Tryz.prog 288 Extern.BytealgCount.count := run_callFunc_extern Tryz.func288 (by kernel_rfl) (by kernel_rfl) (by kernel_rfl) (by kernel_rfl)
theorem ext317 : AM.Without Tryz.prog 317 Extern.BytealgIndexByte.indexByte := run_callFunc_extern Tryz.func317 (by kernel_rfl) (by kernel_rfl) (by kernel_rfl) (by kernel_rfl)
theorem compare_ok : OnceOk Tryz.prog 138 xCompare := compare_gen ext138
theorem count_ok : OnceOk Tryz.prog 288 xCount := count_gen ext288
theorem indexByte_ok : OnceOk Tryz.prog 317 xIndexByte := indexByte_gen ext317
end Code
end Go.AM
