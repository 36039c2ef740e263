/- Operations that touch no memory, third part: all of them. No condition. -/
import Derived.Test.YtgmahpnjeclipaaGreatDoorAm6
namespace Go.AM
section
variable {P : Program}

def relO (γ : Pl) (x : Option AVal) (y : Option Value) : Prop :=
  match x, y with
  | none, none => True
  | some a, some b => rel γ a b
  | _, _ => False

theorem relO_map {γ : Pl} {ρ : Operand → AVal} {ρ' : Operand → Value} (hρ : ∀ x, rel γ (ρ x) (ρ' x)) (o : Option Operand) : relO γ (o.map ρ) (o.map ρ') := by
  cases o <;> simp [relO, hρ]

theorem bound_some {γ : Pl} {x : AVal} {y : Value} {n : Nat} {d : Nat} (h : abound (some x) d = some n) (hr : rel γ x y) (m : Nat) (hm : n ≤ m) (c : BoundsCode) (w : World) :
    (Instr.sliceBound y m c).run P w = .ok n w := by
  unfold abound at h
  split at h
  · rename_i e; cases e
  · rename_i k i e
    cases e
    split at h <;> simp at h
    rename_i hi
    rw [rel_prim] at hr
    subst hr h
    have : 0 ≤ i ∧ i ≤ (m : Int) := ⟨hi, by omega⟩
    simp [Instr.sliceBound, asIntOf, this]
  · cases h

theorem abound_indep (a : AVal) (d d' : Nat) : abound (some a) d = abound (some a) d' := by
  cases a with
  | prim v => cases v <;> rfl
  | _ => rfl

theorem bound_none {n d : Nat} (h : abound none d = some n) : n = d := by
  simp [abound] at h; exact h.symm

theorem bounds_run {γ : Pl} {lo hi mx : Option AVal} {lo' hi' mx' : Option Value} (hl : relO γ lo lo') (hh : relO γ hi hi') (hm : relO γ mx mx')
    {len cap l h m : Nat} (sl : Bool) (e1 : abound lo 0 = some l) (e2 : abound hi len = some h)
    (e3 : (mx = none ∧ m = cap) ∨ (∃ x y, mx = some x ∧ hi = some y ∧ abound (some x) 0 = some m)) (l1 : l ≤ h) (l2 : h ≤ m) (l3 : m ≤ cap) (w : World) :
    (Instr.sliceBounds sl len cap lo' hi' mx').run P w = .ok (l, h, m) w := by
  rcases e3 with ⟨rfl, rfl⟩ | ⟨x, y, rfl, rfl, e3⟩
  · cases mx' with
    | some _ => simp [relO] at hm
    | none =>
      cases hi with
      | none =>
        cases hi' with
        | some _ => simp [relO] at hh
        | none =>
          have := bound_none e2
          subst this
          cases lo with
          | none =>
            cases lo' with
            | some _ => simp [relO] at hl
            | none => have := bound_none e1; subst this; simp [Instr.sliceBounds]
          | some a =>
            cases lo' with
            | none => simp [relO] at hl
            | some b => simp [Instr.sliceBounds, bound_some (P := P) e1 hl _ l1]
      | some a =>
        cases hi' with
        | none => simp [relO] at hh
        | some b =>
          have e2' : abound (some a) 0 = some h := (abound_indep a 0 len).trans e2
          cases lo with
          | none =>
            cases lo' with
            | some _ => simp [relO] at hl
            | none => have := bound_none e1; subst this; simp [Instr.sliceBounds, bound_some (P := P) e2' hh _ l2]
          | some c =>
            cases lo' with
            | none => simp [relO] at hl
            | some d => simp [Instr.sliceBounds, bound_some (P := P) e2' hh _ l2, bound_some (P := P) e1 hl _ l1]
  · cases mx' with
    | none => simp [relO] at hm
    | some x' =>
      cases hi' with
      | none => simp [relO] at hh
      | some y' =>
        have e2' : abound (some y) 0 = some h := (abound_indep y 0 len).trans e2
        cases lo with
        | none =>
          cases lo' with
          | some _ => simp [relO] at hl
          | none =>
            have := bound_none e1; subst this
            simp [Instr.sliceBounds, bound_some (P := P) e2' hh _ l2, bound_some (P := P) e3 hm _ l3]
        | some c =>
          cases lo' with
          | none => simp [relO] at hl
          | some d => simp [Instr.sliceBounds, bound_some (P := P) e2' hh _ l2, bound_some (P := P) e1 hl _ l1, bound_some (P := P) e3 hm _ l3]

theorem addr_add (c o n : Nat) : Addr.add ⟨c, o, none⟩ n = ⟨c, o + n, none⟩ := by
  unfold Addr.add; split <;> simp_all

theorem sliceArr_run {γ : Pl} {t e : TypeId} {n st : Nat} (hd : P.underlying t = some (.array n e)) (hs : size? P e = some st) {x : AVal} {x' : Value} (hx : rel γ x x')
    {lo hi : Option AVal} {lo' hi' : Option Value} (hl : relO γ lo lo') (hh : relO γ hi hi') {v : AVal} (h : asliceArr n st x lo hi = some v) (w : World) :
    ∃ v', (Instr.sliceAt t x' lo' hi' none).run P w = .ok v' w ∧ rel γ v v' := by
  unfold asliceArr at h
  split at h
  · rename_i b off l hh' e1 e2
    split at h <;> simp at h
    rename_i hle
    subst h
    obtain ⟨c, s, z, e, rfl⟩ := (by simpa only [rel] using hx)
    have hr := bounds_run (P := P) (γ := γ) (mx := none) (mx' := none) hl hh (by simp [relO]) false e1 e2 (.inl ⟨rfl, rfl⟩) hle.1 hle.2 (Nat.le_refl _) w
    refine ⟨_, by simp [Instr.sliceAt, und_run hd, Instr.sureAddr, hr, size_run hs]; rfl, ?_⟩
    simp only [rel]
    refine ⟨c, s, z, (if n = l then s + off else s + off + l * st), n - l, e, ?_, by omega, fun m hm => by simpa using hm, ?_, ?_⟩
    · by_cases hn : n = l
      · rw [if_pos hn, if_pos hn]
      · rw [if_neg hn, if_neg hn, addr_add]
    · by_cases hn : n = l
      · exact .inl (by omega)
      · exact .inr (by rw [if_neg hn, Nat.add_assoc])
    · intro hc; cases hc
  · cases h

theorem sliceStr_run {γ : Pl} {t : TypeId} (hd : P.underlying t = some .string) {x : AVal} {x' : Value} (hx : rel γ x x')
    {lo hi : Option AVal} {lo' hi' : Option Value} (hl : relO γ lo lo') (hh : relO γ hi hi') {v : AVal} (h : asliceStr x lo hi = some v) (w : World) :
    ∃ v', (Instr.sliceAt t x' lo' hi' none).run P w = .ok v' w ∧ rel γ v v' := by
  unfold asliceStr at h
  split at h
  · rename_i s
    split at h
    · rename_i l hh' e1 e2
      split at h <;> simp at h
      rename_i hle
      subst h
      rw [rel_prim] at hx
      subst hx
      have hr := bounds_run (P := P) (γ := γ) (mx := none) (mx' := none) hl hh (by simp [relO]) false e1 e2 (.inl ⟨rfl, rfl⟩) hle.1 hle.2 (Nat.le_refl _) w
      exact ⟨.string (s.extract l hh'), by simp [Instr.sliceAt, und_run hd, Instr.slice, hr], by rw [rel_prim]⟩
    · cases h
  · cases h

theorem slice_run {γ : Pl} {t e : TypeId} {st : Nat} (hd : P.underlying t = some (.slice e)) (hs : size? P e = some st) {x : AVal} {x' : Value} (hx : rel γ x x')
    {lo hi mx : Option AVal} {lo' hi' mx' : Option Value} (hl : relO γ lo lo') (hh : relO γ hi hi') (hm : relO γ mx mx') {v : AVal} (h : aslice st x lo hi mx = some v) (w : World) :
    ∃ v', (Instr.sliceAt t x' lo' hi' mx').run P w = .ok v' w ∧ rel γ v v' := by
  unfold aslice at h
  split at h
  · rename_i b off len st' cap
    split at h
    · rename_i l hh' e1 e2
      split at h
      · rename_i hc
        obtain ⟨rfl, hle, hcap⟩ := hc
        obtain ⟨c, s, z, a, k, e, rfl, hlk, hck, hak, hz⟩ := (by simpa only [rel] using hx)
        have hk : cap.getD len ≤ k := by
          cases cap with
          | none => simpa using hlk
          | some m => have := hck m rfl; simp [this]
        have key : ∀ m, hh' ≤ m → m ≤ k → (mx = none ∧ m = k ∨ ∃ x y, mx = some x ∧ hi = some y ∧ abound (some x) 0 = some m) →
            ∃ v', (Instr.sliceAt t (.slice (some ⟨c, a, none⟩) len k) lo' hi' mx').run P w = .ok v' w ∧
              (∀ cap', (∀ q, cap' = some q → m - l = q) → (cap' = none → cap = none) → rel γ (.slice b (off + l * st) (hh' - l) st cap') v') := by
          intro m h1 h2 h3
          have hr := bounds_run (P := P) (γ := γ) hl hh hm true e1 e2 h3 hle h1 h2 w
          refine ⟨.slice (if m = l then some ⟨c, a, none⟩ else some (Addr.add ⟨c, a, none⟩ (l * st))) (hh' - l) (m - l), by simp [Instr.sliceAt, und_run hd, Instr.slice, hr, size_run hs], fun cap' hq hqn => ?_⟩
          simp only [rel]
          have hmul : l * st + (m - l) * st ≤ k * st := by rw [← Nat.add_mul]; exact Nat.mul_le_mul_right _ (by omega)
          by_cases hn : m = l
          · exact ⟨c, s, z, a, m - l, e, by rw [if_pos hn], by omega, hq, .inl (by omega), fun hc => by have := hz (hqn hc); omega⟩
          · refine ⟨c, s, z, a + l * st, m - l, e, by rw [if_neg hn, addr_add], by omega, hq, .inr ?_, fun hc => by have := hz (hqn hc); omega⟩
            rcases hak with h0 | rfl
            · omega
            · rw [Nat.add_assoc]
        cases mx with
        | none =>
          simp only [Option.some.injEq] at h
          subst h
          obtain ⟨v', r1, r2⟩ := key k (by omega) (Nat.le_refl _) (.inl ⟨rfl, rfl⟩)
          refine ⟨v', r1, r2 _ (fun q hq => ?_) fun hc => by cases cap <;> simp at hc ⊢⟩
          cases cap with
          | none => simp at hq
          | some m => have := hck m rfl; simp at hq; omega
        | some mv =>
          simp only [] at h
          split at h
          · rename_i y m hmm
            split at h <;> simp at h
            rename_i hmle
            subst h
            obtain ⟨v', r1, r2⟩ := key m hmle.1 (by omega) (.inr ⟨mv, y, rfl, rfl, hmm⟩)
            exact ⟨v', r1, r2 _ (fun q hq => by simpa using hq) fun hc => by cases hc⟩
          · cases h
      · cases h
    · cases h
  · split at h
    · rename_i e1 e2
      cases h
      rw [rel_prim] at hx
      subst hx
      cases mx' with
      | some _ => simp [relO] at hm
      | none =>
        have hr := bounds_run (P := P) (γ := γ) (mx := none) (mx' := none) hl hh (by simp [relO]) true e1 e2 (.inl ⟨rfl, rfl⟩) (Nat.le_refl 0) (Nat.le_refl 0) (Nat.le_refl 0) w
        exact ⟨.slice none 0 0, by simp [Instr.sliceAt, und_run hd, Instr.slice, hr, size_run hs], by simp [nilSlice, rel_prim]⟩
    · cases h
  · cases h

/-! ### Parts are laid into a row -/

theorem splice_list (off : Nat) : ∀ (vs : List Value) (j : Nat) (cs : Array Value), off + j + vs.length ≤ cs.size →
    ((vs.zipIdx j).foldl (fun cs (x : Value × Nat) => cs.setIfInBounds (off + x.2) x.1) cs).toList = cs.toList.take (off + j) ++ (vs ++ cs.toList.drop (off + j + vs.length))
  | [], j, cs, _ => by simp
  | v :: vs, j, cs, h => by
    simp only [List.length_cons] at h
    simp only [List.zipIdx_cons, List.foldl_cons]
    rw [splice_list off vs (j + 1) _ (by simp; omega)]
    have hj : off + j < cs.toList.length := by simp; omega
    simp only [Array.toList_setIfInBounds]
    rw [show off + (j + 1) = (off + j) + 1 by omega, List.take_add_one, List.length_cons]
    rw [List.getElem?_set_self hj, List.take_set_of_le (Nat.le_refl _), List.drop_set_of_lt (by omega)]
    simp
    omega

theorem fill_run {γ : Pl} {place : Nat → Option (Nat × Nat)} {ρ : Operand → AVal} {ρ' : Operand → Value} (hρ : ∀ x, rel γ (ρ x) (ρ' x)) :
    ∀ (parts : List (Nat × Operand)) (l : List (Nat × Nat × Operand)) (cells : List AVal) (cs : Array Value) (r : List AVal),
      compParts place parts = some l → rels γ cells cs.toList → afill cells (l.map fun p => (p.1, p.2.1, ρ p.2.2)) = some r →
      ∃ cs', Instr.fill place cs (parts.map fun p => (p.1, ρ' p.2)) = some cs' ∧ rels γ r cs'.toList
  | [], l, cells, cs, r, hc, hr, h => by
    simp [compParts] at hc
    subst hc
    simp [afill] at h
    subst h
    exact ⟨cs, rfl, hr⟩
  | (i, x) :: parts, l, cells, cs, r, hc, hr, h => by
    simp only [compParts] at hc
    split at hc <;> simp at hc
    rename_i o n l' hp hl'
    subst hc
    simp only [List.map_cons, afill] at h
    split at h
    · rename_i hle
      have hcx := rel_cells (hρ x)
      have hlen := rels_length hcx
      have hcs := rels_length hr
      simp only [Array.length_toList] at hlen hcs
      have e := splice_list o (ρ' x).cells.toList 0 cs (by simp; omega)
      have hnew : rels γ (cells.take o ++ ((ρ x).cells ++ cells.drop (o + n)))
          ((ρ' x).cells.zipIdx.foldl (fun cs (x : Value × Nat) => cs.setIfInBounds (o + x.2) x.1) cs).toList := by
        rw [← Array.foldl_toList, Array.toList_zipIdx, e]
        have := rels_append (rels_take o hr) (rels_append hcx (rels_drop (o + n) hr))
        simpa [← hle.1, hlen] using this
      obtain ⟨cs', h1, h2⟩ := fill_run hρ parts l' _ _ r hl' hnew h
      refine ⟨cs', ?_, h2⟩
      simp only [List.map_cons, Instr.fill, hp]
      rw [if_neg (by simp; omega)]
      exact h1
    · cases h

theorem mapM_sizes {fields : List Field} (h : (fields.all fun f => (size? P f.type).isSome) = true) (w : World) :
    (fields.mapM (m := Sem) fun f => do pure (f.offset, ← sizeOf f.type)).run P w = .ok (fields.map fun f => (f.offset, (size? P f.type).getD 0)) w := by
  induction fields with
  | nil => simp
  | cons f l ih =>
    simp only [List.all_cons, Bool.and_eq_true] at h
    obtain ⟨n, hn⟩ := Option.isSome_iff_exists.1 h.1
    simp only [List.mapM_cons, Sem.run_bind, size_run hn, Result.andThen_ok, Sem.run_pure, ih h.2, List.map_cons, hn, Option.getD_some]

theorem build_struct {γ : Pl} {t : TypeId} {fields : Array Field} {z : Value} (hd : P.underlying t = some (.struct fields)) (hz : zero? P t = some z)
    (hs : (fields.toList.all fun f => (size? P f.type).isSome) = true) {ρ : Operand → AVal} {ρ' : Operand → Value} (hρ : ∀ x, rel γ (ρ x) (ρ' x))
    {parts : Array (Nat × Operand)} {l : List (Nat × Nat × Operand)} (hc : compParts (placeT P fields) parts.toList = some l) {r : List AVal}
    (h : afill (prims z.cells.toList) (l.map fun p => (p.1, p.2.1, ρ p.2.2)) = some r) (w : World) :
    ∃ v', (Instr.build t (parts.map fun (i, x) => (i, ρ' x))).run P w = .ok v' w ∧ rel γ (.agg r) v' := by
  have hp : ∀ i : Nat, ((fields.toList.map fun f => (f.offset, (size? P f.type).getD 0)).toArray)[i]? = placeT P fields i := fun i => by
    simp only [placeT, List.getElem?_toArray, List.getElem?_map, Array.getElem?_toList]
    cases hf : fields[i]? with
    | none => rfl
    | some f =>
      have hm : f ∈ fields.toList := by
        rw [Array.mem_toList_iff]; exact Array.mem_of_getElem? hf
      have := List.all_eq_true.1 hs f hm
      obtain ⟨n, hn⟩ := Option.isSome_iff_exists.1 this
      simp [hn]
  obtain ⟨cs', h1, h2⟩ := fill_run hρ parts.toList l _ z.cells r hc (rels_prims γ _) h
  have hm := mapM_sizes (P := P) hs w
  have hm' : (fields.mapM (m := Sem) fun f => do pure (f.offset, ← sizeOf f.type)).run P w = .ok (fields.toList.map fun f => (f.offset, (size? P f.type).getD 0)).toArray w := by
    rw [Array.mapM_eq_mapM_toList]
    simp only [Sem.run_map, hm, Result.andThen_ok]
  refine ⟨.agg cs', ?_, by simp only [rel]; exact ⟨cs', rfl, h2⟩⟩
  have hfun : (fun i : Nat => ((fields.toList.map fun f => (f.offset, (size? P f.type).getD 0)).toArray)[i]?) = placeT P fields := funext hp
  simp only [Instr.build, Sem.run_bind, zero_run hz, und_run hd, Result.andThen_ok, hm', hfun]
  simp only [Array.toList_map]
  rw [h1]
  simp

theorem build_array {γ : Pl} {t e : TypeId} {n st : Nat} {z : Value} (hd : P.underlying t = some (.array n e)) (hz : zero? P t = some z) (hst : size? P e = some st)
    {ρ : Operand → AVal} {ρ' : Operand → Value} (hρ : ∀ x, rel γ (ρ x) (ρ' x))
    {parts : Array (Nat × Operand)} {l : List (Nat × Nat × Operand)} (hc : compParts (fun i => some (i * st, st)) parts.toList = some l) {r : List AVal}
    (h : afill (prims z.cells.toList) (l.map fun p => (p.1, p.2.1, ρ p.2.2)) = some r) (w : World) :
    ∃ v', (Instr.build t (parts.map fun (i, x) => (i, ρ' x))).run P w = .ok v' w ∧ rel γ (.agg r) v' := by
  obtain ⟨cs', h1, h2⟩ := fill_run hρ parts.toList l _ z.cells r hc (rels_prims γ _) h
  refine ⟨.agg cs', ?_, by simp only [rel]; exact ⟨cs', rfl, h2⟩⟩
  simp only [Instr.build, Sem.run_bind, zero_run hz, und_run hd, Result.andThen_ok, size_run hst]
  simp only [Array.toList_map]
  rw [h1]
  simp
end
end Go.AM
