/- Operations that change memory, second part: append, copy, clear, iterators. No condition. -/
import Derived.Test.YtgmahpnjeclipaaGreatDoorAm11
namespace Go.AM
section
variable {P : Program}

theorem growBy_le (n : Nat) : ∀ (r c : Nat), Builtin.growBy n r c ≤ max c (n + (n + 768) / 4)
  | 0, c => by simp [Builtin.growBy]; omega
  | r + 1, c => by
    simp only [Builtin.growBy]
    split
    · omega
    · have := growBy_le n r (c + (c + 768) / 4)
      omega

theorem nextcap_le (n c : Nat) (h : c < n) : Builtin.nextslicecap n c ≤ 2 * n + 1000 := by
  unfold Builtin.nextslicecap
  split
  · omega
  · split
    · omega
    · have := growBy_le n 4 c
      omega

theorem rels_bytes (γ : Pl) (s : ByteArray) : rels γ (byteCells s) (s.data.toList.map fun b => Value.int .u8 b.toNat) :=
  rels_map (fun x => by rw [rel_prim]) _

theorem rels_nil (γ : Pl) : rels γ [] [] := by simp [rels]

theorem zeroCells_run {z : Array Value} (n : Nat) : (Builtin.zeroCells z n).toList = (List.replicate n z.toList).flatten := by
  unfold Builtin.zeroCells
  exact zeros_run z n z.size rfl

/-- A row behind the others, of cells that are as told. -/
theorem row_new {γ : Pl} {H : AHeap} {w : World} (hw : Rw γ H w) {l : List AVal} {cs : Array Value} (_ : ∃ rest, cs.toList = (cs.toList.take l.length) ++ rest) (hr : rels γ l (cs.toList.take l.length))
    (e : TypeId) : Rw (γ.put H.n (w.heap.size, 0, cs.size)) (H.push (.cells l)) (w.alloc (.cells cs e)) ∧ Stp γ (γ.put H.n (w.heap.size, 0, cs.size)) H (H.push (.cells l)) w (w.alloc (.cells cs e)) := by
  have hlen := rels_length hr
  simp at hlen
  refine hw.push ⟨cs, e, 0, 0, rfl, rfl, by omega, ?_, .inl rfl⟩
  rw [List.drop_zero]
  have hnone : γ H.n = none := by
    cases e : γ H.n with
    | none => rfl
    | some p => have := hw.dom _ _ e; omega
  exact rels_mono (Ext.put _ hnone) _ _ hr

set_option maxHeartbeats 4000000 in
theorem append_fits_nz {w : World} {t0 t1 e ty : TypeId} {d1 : TypeDesc} {st n : Nat} (h0 : P.underlying t0 = some (.slice e)) (h1 : P.underlying t1 = some d1)
    (hs : size? P e = some st) (hd : ∀ q, d1 ≠ .int q) {base : Option Addr} {len k : Nat} {x' : Value} {new : Array Value}
    (hl : (Builtin.lenOf x').run P w = .ok n w) (hf : (Builtin.firstCells st n x').run P w = .ok new w) (h : len + n ≤ k) :
    (Builtin.append_ #[t0, t1] ty #[.slice base len k, x']).run P w =
      ((match base with | some a => storeCells (a.add (len * st)) new.toList | none => pure () : Sem Unit).run P w).andThen fun _ w' => .ok (.slice base (len + n) k) w' := by
  cases d1 <;> first | exact absurd rfl (hd _) | (cases base <;> simp [Builtin.append_, und_run h0, und_run h1, size_run hs, hl, h, hf])

set_option maxHeartbeats 4000000 in
theorem append_fits_z {w : World} {t0 t1 e ty : TypeId} {st n by_ : Nat} {zv : Value} (h0 : P.underlying t0 = some (.slice e)) {q : IntKind} (h1 : P.underlying t1 = some (.int q))
    (hs : size? P e = some st) (hz : zero? P e = some zv) (hb : bytes? P e = some by_) {base : Option Addr} {len k : Nat}
    (hn : n ≤ 2 ^ 40) (hn' : n * by_ ≤ 2 ^ 47) (h : len + n ≤ k) :
    (Builtin.append_ #[t0, t1] ty #[.slice base len k, .int .i64 n]).run P w =
      ((match base with | some a => storeCells (a.add (len * st)) (if n * st = 0 then #[] else Builtin.zeroCells zv.cells n).toList | none => pure () : Sem Unit).run P w).andThen
        fun _ w' => .ok (.slice base (len + n) k) w' := by
  obtain ⟨i, hi, hib⟩ := bytes_run hb
  have hwn : IntKind.i64.wrap (n : Int) = n := IntWalk.i64_in _ ⟨by omega, by omega⟩
  have hneg : ¬ ((n : Int) < 0) := by omega
  have hbig : ¬ (281474976710656 < (n : Int) * (by_ : Int)) := by
    have : ((n * by_ : Nat) : Int) = (n : Int) * (by_ : Int) := by simp
    omega
  by_cases h00 : n * st = 0
  ·    cases base <;> simp [Builtin.append_, und_run h0, und_run h1, size_run hs, asInt, asIntOf, hwn, hneg, info_run hi, hib, hbig, h, h00]
  ·    cases base <;> simp [Builtin.append_, und_run h0, und_run h1, size_run hs, asInt, asIntOf, hwn, hneg, info_run hi, hib, hbig, h, h00, zero_run hz]

set_option maxHeartbeats 4000000 in
theorem append_grows_nz {w : World} {t0 t1 e ty : TypeId} {d1 : TypeDesc} {st n by_ : Nat} {zv : Value} (h0 : P.underlying t0 = some (.slice e)) (h1 : P.underlying t1 = some d1)
    (hs : size? P e = some st) (hz : zero? P e = some zv) (hb : bytes? P e = some by_) (hd : ∀ q, d1 ≠ .int q) {base : Option Addr} {len k : Nat} {x' : Value}
    {old new : Array Value} (hl : (Builtin.lenOf x').run P w = .ok n w) (ho : (Builtin.firstCells st len (.slice base len k)).run P w.drew = .ok old w.drew)
    (hf : (Builtin.firstCells st n x').run P w.drew = .ok new w.drew) (h : k < len + n) (hby : 0 < by_) (hbound : (2 * (len + n) + 1000) * by_ ≤ 2 ^ 47) :
    ∃ m, (Builtin.append_ #[t0, t1] ty #[.slice base len k, x']).run P w =
      .ok (.slice (some ⟨w.heap.size, 0, none⟩) (len + n) (len + n + m)) (w.drew.alloc (.cells (old ++ new ++ Builtin.zeroCells zv.cells m) e)) := by
  obtain ⟨i, hi, hib⟩ := bytes_run hb
  have hq : ∃ m, Question.cut (.appendCap (len + n) k e) (w.tape w.drawn (.appendCap (len + n) k e)) = len + n + m := ⟨_, rfl⟩
  obtain ⟨m, hm⟩ := hq
  have hforced : (Question.appendCap (len + n) k e).forced = false := rfl
  have hk : ¬ (len + n ≤ k) := by omega
  have hby0 : ¬ (by_ = 0) := by omega
  have hcap : ¬ (281474976710656 < Builtin.nextslicecap (len + n) k * by_) := by
    have := nextcap_le (len + n) k h
    have := Nat.mul_le_mul_right by_ this
    omega
  refine ⟨m, ?_⟩
  cases d1 <;> first | exact absurd rfl (hd _) | simp [Builtin.append_, und_run h0, und_run h1, size_run hs, hl, hk, info_run hi, hib, hby0, hcap, hforced, hm, ho, hf, zero_run hz, newRow]

set_option maxHeartbeats 4000000 in
theorem append_grows_z {w : World} {t0 t1 e ty : TypeId} {st n by_ : Nat} {zv : Value} (h0 : P.underlying t0 = some (.slice e)) {q : IntKind} (h1 : P.underlying t1 = some (.int q))
    (hs : size? P e = some st) (hz : zero? P e = some zv) (hb : bytes? P e = some by_) {base : Option Addr} {len k : Nat}
    {old : Array Value} (ho : (Builtin.firstCells st len (.slice base len k)).run P w.drew = .ok old w.drew) (hn : len + n ≤ 2 ^ 40)
    (h : k < len + n) (hby : 0 < by_) (hbound : (2 * (len + n) + 1000) * by_ ≤ 2 ^ 47) :
    ∃ m, (Builtin.append_ #[t0, t1] ty #[.slice base len k, .int .i64 n]).run P w =
      .ok (.slice (some ⟨w.heap.size, 0, none⟩) (len + n) (len + n + m)) (w.drew.alloc (.cells (old ++ (if n * st = 0 then #[] else Builtin.zeroCells zv.cells n) ++ Builtin.zeroCells zv.cells m) e)) := by
  obtain ⟨i, hi, hib⟩ := bytes_run hb
  have hq : ∃ m, Question.cut (.appendCap (len + n) k e) (w.tape w.drawn (.appendCap (len + n) k e)) = len + n + m := ⟨_, rfl⟩
  obtain ⟨m, hm⟩ := hq
  have hforced : (Question.appendCap (len + n) k e).forced = false := rfl
  have hk : ¬ (len + n ≤ k) := by omega
  have hby0 : ¬ (by_ = 0) := by omega
  have hcap : ¬ (281474976710656 < Builtin.nextslicecap (len + n) k * by_) := by
    have := nextcap_le (len + n) k h
    have := Nat.mul_le_mul_right by_ this
    omega
  have hwn : IntKind.i64.wrap (n : Int) = n := IntWalk.i64_in _ ⟨by omega, by omega⟩
  have hneg : ¬ ((n : Int) < 0) := by omega
  have hbig : ¬ (281474976710656 < (n : Int) * (by_ : Int)) := by
    have : ((n * by_ : Nat) : Int) = (n : Int) * (by_ : Int) := by simp
    have h2 : n * by_ ≤ (2 * (len + n) + 1000) * by_ := Nat.mul_le_mul_right by_ (by omega)
    omega
  have hmax : ¬ (9223372036854775807 < (len : Int) + (n : Int)) := by omega
  refine ⟨m, ?_⟩
  by_cases h00 : n * st = 0
  ·    simp [Builtin.append_, und_run h0, und_run h1, size_run hs, asInt, asIntOf, hwn, hneg, hbig, hmax, hk, info_run hi, hib, hby0, hcap, hforced, hm, ho, h00, zero_run hz, newRow]
  ·    simp [Builtin.append_, und_run h0, und_run h1, size_run hs, asInt, asIntOf, hwn, hneg, hbig, hmax, hk, info_run hi, hib, hby0, hcap, hforced, hm, ho, h00, zero_run hz, newRow]
end
end Go.AM
