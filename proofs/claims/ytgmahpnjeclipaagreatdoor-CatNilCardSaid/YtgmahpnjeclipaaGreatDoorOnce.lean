/- bytes.trimRightByte and crc's Add, answered at once: what is answered is what the program's functions do. Over the program's given form. -/
import Derived.Test.YtgmahpnjeclipaaGreatDoorTrim
namespace Go.AM

theorem AHeap.Alike.symm {H H' : AHeap} (h : H.Alike H') : H'.Alike H := ⟨h.1.symm, fun b => (h.2 b).symm⟩

/-- No callee at all. -/
def noCallee : Callee := fun _ _ _ => none
theorem noCallee_ok (P : Program) : CalleeOk P noCallee := fun f args H v H' h => by simp [noCallee] at h

/-- A function that is answered at once as its code runs. -/
theorem once_of_run {P : Program} (hm : P.follows .mixedOrders = true) {eqv : Eqv} (heqv : ∀ v w, eqv v w = true → v = w) {cl : Callee} (hcl : CalleeOk P cl) {f : FuncId} {fn : Func} {af : AFunc}
    (hf : P.funcs[f]? = some fn) (hname : (fn.name == "runtime.NumGoroutine") = false) (hc : compFunc P fn = some af) {x : XFun}
    (h : ∀ args H v H', x args H = some (v, H') → Run eqv cl af.code (argFrame args 0 .leaf) H (Done af.results fun r H'' => r = v ∧ H'.Alike H'')) : OnceOk P f x := by
  intro args H v H' hx γ w args' hw ha
  obtain ⟨k, e, T, H1, h1, h2⟩ := h args H v H' hx
  have key : ∃ vs, results T H1 af.results = some vs ∧ (asOne vs = v ∧ H'.Alike H1) ∧ (e = .normal ∨ e = .ret) := by
    cases e with
    | normal => obtain ⟨vs, a, b⟩ := h2; exact ⟨vs, a, b, .inl rfl⟩
    | ret => obtain ⟨vs, a, b⟩ := h2; exact ⟨vs, a, b, .inr rfl⟩
    | exit id => exact h2.elim
  obtain ⟨vs, a, ⟨b, c⟩, he⟩ := key
  have hr : callF eqv cl k af args H = some (v, H1) := by
    rcases he with rfl | rfl <;> simp only [callF, h1, a, b]
  exact Back.mono (fun v' w' hp => Post.alike hp c.symm) (callF_run hm heqv hcl hf hname hc hr hw ha)

namespace Code
set_option maxRecDepth 1000000
open Go.Proofs

theorem orders : Tryz.prog.follows .mixedOrders = true := by kernel_rfl

theorem once_entry {f : FuncId} {af : AFunc} (hc : Entry f af) {cl : Callee} (hcl : CalleeOk Tryz.prog cl) {x : XFun}
    (h : ∀ args H v H', x args H = some (v, H') → Run (aveq 5) cl af.code (argFrame args 0 .leaf) H (Done af.results fun r H'' => r = v ∧ H'.Alike H'')) : OnceOk Tryz.prog f x := by
  obtain ⟨fn, h1, h2, h3⟩ := hc
  exact once_of_run orders (aveq_sound 5) hcl h1 h2 h3 h

/-- bytes.trimRightByte. -/
def xTrimR : XFun
  | [.slice b off len st cap, .prim (.int .u8 (.ofNat c))], H =>
    match Nat.beq st 1, Nat.ble len (cap.getD len), Nat.blt len 9223372036854775808, sliceCells (.slice b off len 1 cap) 1 H with
    | true, true, true, some l =>
      match byteNs l with
      | some ns => forceN (trimR c ns.reverse) fun n => some (.slice b off n 1 cap, H)
      | none => none
    | _, _, _, _ => none
  | _, _ => none

theorem trimR_ok : OnceOk Tryz.prog 238 xTrimR := by
  refine once_entry c238 (noCallee_ok _) fun args H v H' h => ?_
  unfold xTrimR at h
  split at h <;> try (cases h; done)
  rename_i b off len st cap c
  split at h <;> try (cases h; done)
  rename_i l h1 h2 h3 hl
  split at h <;> try (cases h; done)
  rename_i ns hns
  rw [forceN_eq] at h
  have hst := Nat.eq_of_beq_eq_true h1
  subst hst
  have hv : v = .slice b off (trimR c ns.reverse) 1 cap := by simp at h; exact h.1.symm
  have hH : H' = H := by simp at h; exact h.2.symm
  subst hv
  subst hH
  obtain ⟨cells, hb, ho, hn, hbs⟩ := byteNs_slice hl hns
  have := trim_run (cl := noCallee) (eqv := aveq 5) (c := c) hb (by simpa using h2) (by simpa using h3) hn hbs
  obtain ⟨k, e, T, H1, e1, e2⟩ := this
  refine ⟨k, e, T, H1, e1, ?_⟩
  cases e with
  | normal => obtain ⟨vs, a, p, q⟩ := e2; exact ⟨vs, a, p, q ▸ AHeap.Alike.refl _⟩
  | ret => obtain ⟨vs, a, p, q⟩ := e2; exact ⟨vs, a, p, q ▸ AHeap.Alike.refl _⟩
  | exit id => exact e2.elim

/-- Cells as numbers of 32 bits. -/
def wordNs : List AVal → Option (List Nat)
  | [] => some []
  | .prim (.int .u32 (.ofNat n)) :: rest =>
    match Nat.blt n 4294967296, wordNs rest with
    | true, some l => some (n :: l)
    | _, _ => none
  | _ :: _ => none

theorem wordNs_get : ∀ {l : List AVal} {ns : List Nat}, wordNs l = some ns → ∀ i, i < l.length → ∃ n, ns[i]? = some n ∧ n < 4294967296 ∧ l[i]? = some (.prim (.int .u32 (n : Int)))
  | [], ns, h, i, hi => by simp at hi
  | x :: l, ns, h, i, hi => by
    unfold wordNs at h
    split at h
    · rename_i heq; cases heq
    · rename_i n rest heq
      cases heq
      split at h <;> simp at h
      rename_i l' h1 h2
      subst h
      cases i with
      | zero => exact ⟨n, rfl, by simpa using h1, rfl⟩
      | succ i => simpa using wordNs_get h2 i (by simpa using hi)
    · cases h

def crcN (t : List Nat) : List Nat → Nat → Nat
  | [], v => v
  | c :: l, v => forceN (crcStep t (crcStep t (Nat.xor v c))) fun v => crcN t l v

theorem crcN_eq (t : List Nat) : ∀ (ns : List Nat) (v : Nat), (∀ n ∈ ns, n < 256) → crcN t ns v = crcFold t (ns.map UInt8.ofNat) v
  | [], _, _ => rfl
  | c :: l, v, h => by
    simp only [crcN, crcFold, List.map_cons, forceN_eq]
    have hc : (UInt8.ofNat c).toNat = c := by
      have := h c (by simp)
      simp [UInt8.toNat_ofNat']; omega
    rw [hc]
    exact crcN_eq t l _ fun n hn => h n (by simp [hn])

/-- crc's Add. -/
def xCrc : XFun
  | [.ptr s 0, .slice b off len st cap], H =>
    match H.get s, Nat.beq st 1, Nat.beq b s, sliceCells (.slice b off len 1 cap) 1 H with
    | some (.cells l), true, false, some bl =>
      match wordNs (l.take 16), (l[16]? : Option AVal), (l[17]? : Option AVal), byteNs bl, Nat.ble 18 l.length with
      | some t, some (.prim (.int .u32 (.ofNat v))), some (.prim (.int .i64 (.ofNat k))), some ns, true =>
        match Nat.blt v 4294967296, Nat.blt (k + len) 9223372036854775808 with
        | true, true => forceN (crcN t ns v) fun m => forceN (k + len) fun n =>
          some (.tuple [], H.set s (.cells ((l.set 16 (.prim (.int .u32 (.ofNat m)))).set 17 (.prim (.int .i64 (.ofNat n))))))
        | _, _ => none
      | _, _, _, _, _ => none
    | _, _, _, _ => none
  | _, _ => none

theorem xCrc_ok : OnceOk Tryz.prog 232 xCrc := by
  refine once_entry c232 (noCallee_ok _) fun args H v H' h => ?_
  unfold xCrc at h
  split at h <;> try (cases h; done)
  rename_i s b off len st cap
  split at h <;> try (cases h; done)
  rename_i l bl hH h1 h2 hl
  split at h <;> try (cases h; done)
  rename_i t v0 k ns ht h16 h17 hns h18
  split at h <;> try (cases h; done)
  rename_i hv0 hk0
  rw [forceN_eq, forceN_eq] at h
  have hst := Nat.eq_of_beq_eq_true h1
  subst hst
  have hv : v = .tuple [] := by simp at h; exact h.1.symm
  have hH' : H' = H.set s (.cells ((l.set 16 (.prim (.int .u32 (.ofNat (crcN t ns v0))))).set 17 (.prim (.int .i64 (.ofNat (k + len)))))) := by simp at h; exact h.2.symm
  subst hv
  subst hH'
  obtain ⟨cells, hb, ho, hn, hbs⟩ := byteNs_slice hl hns
  have hne : b ≠ s := fun e => by rw [e, Nat.beq_refl] at h2; cases h2
  have hlt : ∀ n ∈ ns, n < 256 := fun n hn' => by
    obtain ⟨i, hi, e⟩ := List.getElem_of_mem hn'
    obtain ⟨m, m1, m2, _⟩ := (byteNs_get hns).2 i hi
    rw [List.getElem?_eq_getElem hi, e] at m1
    cases m1
    exact m2
  have htab : TabOk t l := fun i hi => by
    have hl18 : 18 ≤ l.length := by simpa using h18
    obtain ⟨m, m1, m2, m3⟩ := wordNs_get ht i (by simp; omega)
    refine ⟨m, m1, m2, ?_⟩
    rw [List.getElem?_take, if_pos hi] at m3
    exact m3
  have hlen : ((ns.map UInt8.ofNat).length : Int) = (len : Int) := by simp [hn]
  have := crcAdd_run (cl := noCallee) (eqv := aveq 5) (cap := cap) (bs := ns.map UInt8.ofNat) hH htab h16 (by simpa using hv0) h17 (by
      have : k + len < 9223372036854775808 := by simpa using hk0
      rw [hlen]; simp only [Int.ofNat_eq_natCast]; omega) hb hne (by simp [hn]) ho fun i hi => by
    obtain ⟨n, n1, n2, n3⟩ := hbs i hi
    refine ⟨UInt8.ofNat n, by simp [n1], ?_⟩
    rw [n3]
    have : (UInt8.ofNat n).toNat = n := by simp [UInt8.toNat_ofNat']; omega
    rw [this]
  rw [← crcN_eq t ns v0 hlt, hlen] at this
  exact this
end Code
end Go.AM
