/- slices.Sorted at maps.Keys of a map of numbers: what it answers. Over the program's given form. -/
import Derived.Test.YtgmahpnjeclipaaGreatDoorKeys
import Derived.Test.YtgmahpnjeclipaaGreatDoorRoom
namespace Go.AM

/-- A new object, wherever it lies. -/
theorem Rw.pushAt {γ : Pl} {H : AHeap} {w w' : World} (h : Rw γ H w) {o : AObj} {ob : Obj} {g z : Nat} (hsz : w.heap.size ≤ w'.heap.size) (hold : ∀ k, k < w.heap.size → w'.heap[k]? = w.heap[k]?)
    (hg : w.heap.size ≤ g) (hob : w'.heap[g]? = some ob) (e1 : w'.os = w.os) (e2 : w'.tape = w.tape) (e3 : w'.output = w.output) (hr : objRel (γ.put H.n (g, 0, z)) o 0 z ob) :
    Rw (γ.put H.n (g, 0, z)) (H.push o) w' ∧ Stp γ (γ.put H.n (g, 0, z)) H (H.push o) w w' := by
  have hnone : γ H.n = none := by
    cases e : γ H.n with
    | none => rfl
    | some p => have := h.dom _ _ e; omega
  have hext := Ext.put (γ := γ) (g, 0, z) hnone
  have hglt : g < w'.heap.size := (Array.getElem?_eq_some_iff.1 hob).1
  refine ⟨⟨fun x hx => ?_, fun x p e => ?_, fun x c s z' e => ?_, fun x c' s' z' o' e eo => ?_, fun x y c' s1 z1 s2 z2 o1 o2 e1 e2 g1 g2 => ?_⟩,
    ⟨hext, fun x p e => ?_, by simp, fun x e hx => ?_, e1, e2, e3, hsz, fun d hd hn => hold d hd, fun x p e hx => ?_, fun d hd _ _ => hold d hd⟩⟩
  · simp only [AHeap.n_push] at hx
    rw [AHeap.get_push, if_neg (by omega)]
    exact h.fresh x (by omega)
  · by_cases hx : x = H.n
    · subst hx; simp
    · rw [Pl.put_other _ _ hx] at e
      have := h.dom x p e
      simp; omega
  · by_cases hx : x = H.n
    · subst hx; rw [Pl.put_same] at e; cases e; exact hglt
    · rw [Pl.put_other _ _ hx] at e
      have := h.low x _ _ _ e
      omega
  · rw [AHeap.get_push] at eo
    by_cases hx : x = H.n
    · subst hx
      rw [Pl.put_same] at e
      cases e
      rw [if_pos rfl] at eo
      cases eo
      exact ⟨ob, hob, hr⟩
    · rw [if_neg hx] at eo
      rw [Pl.put_other _ _ hx] at e
      obtain ⟨ob', e1, e2⟩ := h.live x c' s' z' o' e eo
      exact ⟨ob', by rw [hold _ (h.low x _ _ _ e)]; exact e1, objRel_mono hext e2⟩
  · rw [AHeap.get_push] at g1 g2
    by_cases hx : x = H.n
    · by_cases hy : y = H.n
      · rw [hx, hy]
      · subst hx
        rw [Pl.put_same] at e1
        rw [Pl.put_other _ _ hy] at e2
        cases e1
        have := h.low y _ _ _ e2
        omega
    · by_cases hy : y = H.n
      · subst hy
        rw [Pl.put_same] at e2
        rw [Pl.put_other _ _ hx] at e1
        cases e2
        have := h.low x _ _ _ e1
        omega
      · rw [if_neg hx] at g1
        rw [if_neg hy] at g2
        rw [Pl.put_other _ _ hx] at e1
        rw [Pl.put_other _ _ hy] at e2
        exact h.inj x y _ _ _ _ _ _ _ e1 e2 g1 g2
  · by_cases hx : x = H.n
    · subst hx
      rw [Pl.put_same] at e
      cases e
      exact .inr ⟨Nat.le_refl _, .inr hg⟩
    · rw [Pl.put_other _ _ hx] at e
      exact .inl e
  · rw [AHeap.get_push, if_neg (by omega)]
  · have := h.dom x p e
    rw [AHeap.get_push, if_neg (by omega)]
    exact hx

/-- Nothing that the abstract heap knows of has turned. -/
theorem Rw.grown {γ : Pl} {H : AHeap} {w w' : World} (h : Rw γ H w) (hsz : w.heap.size ≤ w'.heap.size) (hold : ∀ k, k < w.heap.size → w'.heap[k]? = w.heap[k]?)
    (e1 : w'.os = w.os) (e2 : w'.tape = w.tape) (e3 : w'.output = w.output) : Rw γ H w' ∧ Stp γ γ H H w w' :=
  ⟨⟨h.fresh, h.dom, fun b c s z e => by have := h.low b c s z e; omega, fun b c s z o e eo => by
      obtain ⟨ob, h1, h2⟩ := h.live b c s z o e eo
      exact ⟨ob, by rw [hold _ (h.low b c s z e)]; exact h1, h2⟩, h.inj⟩,
    ⟨Ext.refl γ, fun _ _ h => .inl h, Nat.le_refl _, fun _ _ _ => rfl, e1, e2, e3, hsz, fun d hd _ => hold d hd, fun _ _ _ h => h, fun d hd _ _ => hold d hd⟩⟩

/-! ### Numbers in order -/
theorem insertInt_perm (n : Int) : ∀ l : List Int, (insertInt n l).Perm (n :: l)
  | [] => List.Perm.refl _
  | m :: l => by
    simp only [insertInt]
    split
    · exact List.Perm.refl _
    · exact ((insertInt_perm n l).cons m).trans (List.Perm.swap n m l)

theorem sortInts_perm : ∀ l : List Int, (sortInts l).Perm l
  | [] => List.Perm.refl _
  | n :: l => (insertInt_perm n _).trans ((sortInts_perm l).cons n)

theorem insertInt_sorted (n : Int) : ∀ l : List Int, l.Pairwise (· ≤ ·) → (insertInt n l).Pairwise (· ≤ ·)
  | [], _ => by simp [insertInt]
  | m :: l, h => by
    simp only [insertInt]
    split
    · rename_i hle
      refine List.pairwise_cons.2 ⟨fun x hx => ?_, h⟩
      rcases List.mem_cons.1 hx with rfl | hx
      · exact hle
      · exact Int.le_trans hle ((List.pairwise_cons.1 h).1 x hx)
    · rename_i hle
      obtain ⟨h1, h2⟩ := List.pairwise_cons.1 h
      refine List.pairwise_cons.2 ⟨fun x hx => ?_, insertInt_sorted n l h2⟩
      rcases List.mem_cons.1 ((insertInt_perm n l).mem_iff.1 hx) with rfl | hx
      · omega
      · exact h1 x hx

theorem sortInts_sorted : ∀ l : List Int, (sortInts l).Pairwise (· ≤ ·)
  | [] => List.Pairwise.nil
  | n :: l => insertInt_sorted n _ (sortInts_sorted l)

theorem sortInts_merge {l l' : List Int} (h : l.Perm l') : l.mergeSort (fun x y => decide (x ≤ y)) = sortInts l' := by
  have tr : ∀ a b c : Int, decide (a ≤ b) = true → decide (b ≤ c) = true → decide (a ≤ c) = true := fun a b c h1 h2 => by simp only [decide_eq_true_eq] at *; exact Int.le_trans h1 h2
  have to : ∀ a b : Int, (decide (a ≤ b) || decide (b ≤ a)) = true := fun a b => by simp only [Bool.or_eq_true, decide_eq_true_eq]; exact Int.le_total a b
  refine List.Perm.eq_of_pairwise (le := fun a b => a ≤ b) (fun a b _ _ h1 h2 => Int.le_antisymm h1 h2) ((List.pairwise_mergeSort tr to l).imp fun h => by simpa using h) (sortInts_sorted l')
    (((List.mergeSort_perm l _).trans h).trans (sortInts_perm l').symm)

theorem insert_perm {H : Type} (x : Lit × DataW H) : ∀ l : List (Lit × DataW H), (DataW.insert x l).Perm (x :: l)
  | [] => List.Perm.refl _
  | y :: r => by
    simp only [DataW.insert]
    split
    · exact List.Perm.refl _
    · exact ((insert_perm x r).cons y).trans (List.Perm.swap x y r)

theorem foldr_insert_perm {H : Type} : ∀ l : List (Lit × DataW H), (l.foldr DataW.insert []).Perm l
  | [] => List.Perm.refl _
  | x :: l => (insert_perm x _).trans ((foldr_insert_perm l).cons x)

/-- The keys of a map of numbers, if they are apart, and not too great. -/
def keysOf : List (Value × AVal) → Option (List Int)
  | [] => some []
  | (.int .i64 (.ofNat n), _) :: l =>
    match Nat.blt n 9223372036854775808, keysOf l with
    | true, some r => if (Int.ofNat n) ∈ r then none else some (.ofNat n :: r)
    | _, _ => none
  | _ :: _ => none

def xSorted2 : XFun
  | [.func f [] [.ptr b o]], H =>
    match Nat.beq f 245, H.get b with
    | true, some (.cells l) =>
      match (l[o]? : Option AVal) with
      | some (.map m) =>
        match H.get m with
        | some (.map es) =>
          match Nat.blt es.length 1000000, keysOf es with
          | true, some [] => some (nilSlice, H)
          | true, some (k :: ks) => some (.slice H.n 0 (k :: ks).length 1 none, H.push (.cells ((sortInts (k :: ks)).map int)))
          | _, _ => none
        | _ => none
      | _ => none
    | _, _ => none
  | _, _ => none

theorem keysOf_spec : ∀ {es : List (Value × AVal)} {ks : List Int}, keysOf es = some ks → ks.Nodup ∧ es.map (·.1) = ks.map (Value.int .i64) ∧ ∀ k ∈ ks, 0 ≤ k ∧ k < 9223372036854775808
  | [], ks, h => by simp [keysOf] at h; subst h; simp
  | e :: es, ks, h => by
    unfold keysOf at h
    split at h
    · rename_i heq; cases heq
    · rename_i n v l heq
      cases heq
      split at h <;> simp at h
      rename_i r h1 h2
      obtain ⟨h3, h4⟩ := h
      subst h4
      obtain ⟨a, b, c⟩ := keysOf_spec h2
      have hn : n < 9223372036854775808 := by simpa using h1
      refine ⟨List.nodup_cons.2 ⟨by simpa using h3, a⟩, by simp [b], fun k hk => ?_⟩
      rcases List.mem_cons.1 hk with rfl | hk
      · exact ⟨by omega, by omega⟩
      · exact c k hk
    · cases h

namespace Code
open Go.Proofs
set_option maxRecDepth 1000000

/-- How elements are read here: not at all. -/
def noRead : Value → Option (DataW Unit × List MemPlace) := fun _ => some (.nil, [])

theorem owns_of {w : World} {c clock : Nat} {ents : Array MapEntry} {ks : List Int} (hob : w.heap[c]? = some (.map ents clock)) (hkeys : ents.toList.map (·.key) = ks.map (Value.int .i64)) (hnd : ks.Nodup)
    (hk : ∀ k ∈ ks, 0 ≤ k ∧ k < 9223372036854775808) (hsz : ents.size < 1000000) (hborn : ∀ x ∈ ents.toList, x.born < clock) (hbn : (ents.toList.map (·.born)).Nodup) :
    ∃ D0 : DataW Unit, w.ownsMap Tryz.prog 3 noRead c ents.size D0 ∧ (Go.intKeys D0).Perm ks ∧ Maps.size D0 = ents.size := by
  have hkey : ∀ x ∈ ents.toList, ∃ k, k ∈ ks ∧ x.key = .int .i64 k := fun x hx => by
    have : x.key ∈ ks.map (Value.int .i64) := by rw [← hkeys]; exact List.mem_map.2 ⟨x, hx, rfl⟩
    obtain ⟨k, h1, h2⟩ := List.mem_map.1 this
    exact ⟨k, h1, h2.symm⟩
  have hwf : ∀ k ∈ ks, (Lit.int .i64 k).wf = true := fun k h => by
    obtain ⟨h1, h2⟩ := hk k h
    have e1 : IntKind.i64.min = -9223372036854775808 := by decide
    have e2 : IntKind.i64.max = 9223372036854775807 := by decide
    simp only [Lit.wf, e1, e2, Bool.and_eq_true, decide_eq_true_eq]
    omega
  have hrd : ∀ x ∈ ents.toList, ∀ k, x.key = .int .i64 k → k ∈ ks → WideElems.rd Tryz.prog 3 noRead x = some (.int .i64 k, .nil) := fun x hx k e hkk => by
    simp [WideElems.rd, e, Maps.keyOf_int_mk Tryz.underlying3 (hwf k hkk), noRead]
  refine ⟨.map ((ents.toList.map (WideElems.rg Tryz.prog 3 noRead)).foldr DataW.insert []), ⟨ents, clock, hob, ⟨?_, ⟨hborn, hbn, ?_⟩, fun x hx => ?_⟩, Nat.le_refl _, rfl⟩, ?_, ?_⟩
  · have : (1000000 : Nat) ≤ maxLen := by decide
    omega
  · rw [hkeys]
    exact List.pairwise_map.2 (hnd.imp fun hne e => hne (by simpa using e))
  · obtain ⟨k, h1, h2⟩ := hkey x hx
    exact ⟨_, hrd x hx k h2 h1⟩
  · have hp := (foldr_insert_perm (ents.toList.map (WideElems.rg Tryz.prog 3 noRead))).map fun p => intOf p.1
    show (((ents.toList.map (WideElems.rg Tryz.prog 3 noRead)).foldr DataW.insert []).map fun p => intOf p.1).Perm ks
    refine hp.trans ?_
    have : (ents.toList.map (WideElems.rg Tryz.prog 3 noRead)).map (fun p => intOf p.1) = ks := by
      have e1 : ∀ x ∈ ents.toList, intOf (WideElems.rg Tryz.prog 3 noRead x).1 = (match x.key with | .int _ a => a | _ => 0) := fun x hx => by
        obtain ⟨k, h1, h2⟩ := hkey x hx
        simp only [WideElems.rg, hrd x hx k h2 h1, h2, Option.getD_some, intOf]
      rw [List.map_map]
      have e2 : ents.toList.map ((fun p => intOf p.1) ∘ WideElems.rg Tryz.prog 3 noRead) = (ents.toList.map (·.key)).map (fun v => match v with | .int _ a => a | _ => 0) := by
        rw [List.map_map]
        exact List.map_congr_left fun x hx => e1 x hx
      rw [e2, hkeys, List.map_map]
      exact List.map_id'' (fun x => rfl) ks
    rw [this]
  · show List.length _ = _
    rw [(foldr_insert_perm _).length_eq]
    simp

theorem sorted_ok : OnceOk Tryz.prog 212 xSorted2 := by
  intro args H v H' h γ w args' hw ha
  unfold xSorted2 at h
  split at h <;> try (cases h; done)
  rename_i f b o
  split at h <;> try (cases h; done)
  rename_i l hf hl
  split at h <;> try (cases h; done)
  rename_i m hlm
  split at h <;> try (cases h; done)
  rename_i es hm
  have hf' := Nat.eq_of_beq_eq_true hf
  subst hf'
  have key : ∃ ks, keysOf es = some ks ∧ es.length < 1000000 ∧ v = (match ks with | [] => nilSlice | k :: ks => .slice H.n 0 (k :: ks).length 1 none) ∧
      H' = (match ks with | [] => H | k :: ks => H.push (.cells ((sortInts (k :: ks)).map int))) := by
    split at h <;> try (cases h; done)
    · rename_i h1 h2
      simp only [Option.some.injEq, Prod.mk.injEq] at h
      exact ⟨[], h2, by simpa using h1, h.1.symm, h.2.symm⟩
    · rename_i k ks h1 h2
      simp only [Option.some.injEq, Prod.mk.injEq] at h
      exact ⟨k :: ks, h2, by simpa using h1, h.1.symm, h.2.symm⟩
  obtain ⟨ks, hks, hlen, hv, hH⟩ := key
  clear h
  obtain ⟨hnd, hmap, hbd⟩ := keysOf_spec hks
  obtain ⟨fv, hargs, hfv⟩ := rels_one ha
  simp only [rel] at hfv
  obtain ⟨fs, cs, hfe, hfs, hcs⟩ := hfv
  have hfs' : fs = #[] := by
    have := rels_length hfs
    simp only [List.length_nil, Array.length_toList] at this
    exact Array.eq_empty_of_size_eq_zero this.symm
  obtain ⟨pv, hcs', hpv⟩ := rels_one hcs
  simp only [rel] at hpv
  obtain ⟨c, s, z, hγ, hpe⟩ := hpv
  subst hpe
  subst hcs'
  subst hfs'
  subst hfe
  subst hargs
  obtain ⟨cc, e', lo, hi, c1, c2, c3, c4, c5⟩ := cells_live hw hγ hl
  obtain ⟨mv, hmv, hmr⟩ := rels_get c4 o _ hlm
  simp only [rel] at hmr
  obtain ⟨cm, sm, zm, hγm, hme⟩ := hmr
  subst hme
  have hcell : w.cell? ⟨c, s + o, none⟩ = some (.map (some cm)) := by
    rw [cell_of c1]
    have hol : o < l.length := (List.getElem?_eq_some_iff.1 hlm).1
    rw [List.getElem?_take, if_pos hol, List.getElem?_drop] at hmv
    simpa using hmv
  obtain ⟨ents, clock, m1, m2, m3, m4⟩ := map_live hw hγm hm
  obtain ⟨ml, mg⟩ := m2
  have hkeys : ents.toList.map (·.key) = ks.map (Value.int .i64) := by
    rw [← hmap]
    refine List.ext_getElem? fun i => ?_
    simp only [List.getElem?_map]
    rcases Nat.lt_or_ge i es.length with hi | hi
    · obtain ⟨en, g1, g2, _⟩ := mg i es[i].1 es[i].2 (List.getElem?_eq_getElem hi)
      rw [g1, List.getElem?_eq_getElem hi, Option.map_some, Option.map_some, g2]
    · rw [List.getElem?_eq_none hi, List.getElem?_eq_none (by omega)]
      rfl
  have hsz : ents.size = es.length := by simpa using ml.symm
  obtain ⟨D0, hown, hperm, hsize⟩ := owns_of m1 hkeys hnd hbd (by omega) (fun x hx => by
    obtain ⟨i, hi, e⟩ := List.getElem_of_mem hx
    exact m3 i x (by rw [← e]; simp at hi; simp [hi])) (born_nodup m4)
  have h0 : (1000000 : Nat) ≤ maxLen := by decide
  have hcall := Tryz.sortedKeys c (s + o) cm ents.size D0 noRead w (hw.low b c s z hγ) hcell hown (by rw [hsize]; omega) (by rw [hsize]; omega)
  rw [enters_of Tryz.func212 (by kernel_rfl) rfl]
  refine hcall.mono fun e w' he => ?_
  obtain ⟨v', ss, h1, h2, h3, h4, h5⟩ := he
  subst h1
  have hss := h2.trans hperm
  rw [sortInts_merge hss] at h3
  show Post γ H H' v w v' w'
  cases ks with
  | nil =>
    have : ss = [] := List.Perm.eq_nil hss
    have hv' := h4.2 this
    subst hv'
    simp only at hv hH
    subst hv
    subst hH
    obtain ⟨q1, q2⟩ := hw.grown h5.size (fun k hk => h5.block k hk) h5.os h5.tape h5.output
    exact ⟨γ, by simp [nilSlice, rel_prim], q1, q2⟩
  | cons k ks =>
    simp only at hv hH
    subst hv
    subst hH
    have hslen : ss.length = (k :: ks).length := hss.length_eq
    obtain ⟨_, h3⟩ := h3
    rcases h3 with ⟨hnil, _⟩ | ⟨g, cap, cur, hve, hbase, hgb, r1, r2, r3, r4⟩
    · have := h4.1 hnil
      rw [this] at hslen
      simp at hslen
    subst hve
    have hlen2 : ((sortInts (k :: ks)).map int).length = (k :: ks).length := by simp [(sortInts_perm (k :: ks)).length_eq]
    obtain ⟨q1, q2⟩ := hw.pushAt (o := .cells ((sortInts (k :: ks)).map int)) (z := cap) h5.size (fun k hk => h5.block k hk) hbase hgb h5.os h5.tape h5.output (by
      refine ⟨cur, 3, 0, 0, rfl, by simpa using r3, by rw [hlen2]; omega, ?_, .inl rfl⟩
      rw [hlen2, List.drop_zero]
      rw [hslen, Nat.mul_one] at r4
      rw [r4]
      exact rels_map (fun x => by simp [int, rel_prim]) _)
    refine ⟨_, ?_, q1, q2⟩
    simp only [rel]
    exact ⟨g, 0, cap, 0, cap, Pl.put_same _ _ _, by rw [hslen], by omega, by simp, .inr rfl, fun _ => by omega⟩
end Code
end Go.AM
