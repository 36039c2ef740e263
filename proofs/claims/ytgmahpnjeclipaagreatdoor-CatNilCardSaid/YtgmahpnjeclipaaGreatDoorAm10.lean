/- Operations that read memory, and that make some. No condition. -/
import Derived.Test.YtgmahpnjeclipaaGreatDoorAm9
namespace Go.AM
section
variable {P : Program}

theorem gives_at {γ : Pl} {v : AVal} {s : Sem Value} {w : World} (h : ∃ v', s.run P w = .ok v' w ∧ rel γ v v') :
    ∃ v', (do pure (Next.value (← s)) : Sem Next).run P w = .ok (.value v') w ∧ rel γ v v' := by
  obtain ⟨v', e, r⟩ := h
  exact ⟨v', by simp [e], r⟩

/-- A read. -/
theorem read_run {γ : Pl} {H : AHeap} {w : World} (hw : Rw γ H w) {ρ : Operand → AVal} {ρ' : Operand → Value} (hρ : ∀ x, rel γ (ρ x) (ρ' x)) {o : Oper} {a : AOp}
    (hc : compOp P o.op = some a) (hk : a.kind = 1) {v : AVal} (h : readOp ρ H a = some v) : ∃ v', (execOp ρ' o).run P w = .ok (.value v') w ∧ rel γ v v' := by
  obtain ⟨dst, op, type, pos, after, guard⟩ := o
  cases op <;> simp only [compOp] at hc <;> try (cases hc; done)
  case makeFunc fn first caps => cases fn <;> simp at hc; subst hc; simp [AOp.kind] at hk
  case makeMap t r => cases r <;> simp at hc; subst hc; simp [AOp.kind] at hk
  case load t y =>
    cases hkk : kindT P t with
    | none => rw [hkk] at hc; cases hc
    | some k =>
      rw [hkk] at hc
      cases hc
      exact gives_at (aload_run hw hkk (hρ y) h)
  case lookup t m' k' ok' =>
    split at hc <;> simp at hc
    rename_i s z' hm
    subst hc
    exact gives_at (alookup_run hw hm (hρ _) (hρ _) h)
  case convert src dst y =>
    split at hc <;> try (cases hc; done)
    · cases hc; simp [AOp.kind] at hk
    · cases hc; simp [AOp.kind] at hk
    · split at hc <;> simp at hc
      subst hc; simp [AOp.kind] at hk
    · rename_i e hs hd
      split at hc <;> simp at hc
      rename_i he
      subst hc
      exact gives_at (toStr_run hw hs hd he (hρ _) h)
    · split at hc <;> simp at hc
      obtain ⟨_, rfl⟩ := hc; simp [AOp.kind] at hk
  case call c =>
    unfold compCall at hc
    split at hc
    case h_7 hb =>
      split at hc <;> try (cases hc; done)
      rename_i y t0 hx ht
      split at hc
      · cases hc; simp [AOp.kind] at hk
      · cases hc; simp [AOp.kind] at hk
      · cases hc; simp [AOp.kind] at hk
      · rename_i kt et hd
        cases hc
        have hargs : c.args.map ρ' = #[ρ' y] := by apply Array.ext'; simp [hx]
        have htys : c.argTypes = #[t0] := by apply Array.ext'; simp [ht]
        obtain ⟨v', e, r⟩ := alenMap_run hw hd (hρ y) h type
        refine ⟨v', ?_, r⟩
        simp only [execOp, resolve, hb, Sem.run_bind, Sem.run_pure, Result.andThen_ok, invoke, builtin, hargs, htys, e]
      · split at hc <;> simp at hc
        subst hc; simp [AOp.kind] at hk
      · cases hc
    all_goals
      (repeat' split at hc)
      all_goals first
        | (cases hc; done)
        | (cases hc; simp [AOp.kind] at hk; done)
        | (obtain ⟨_, _, rfl⟩ := Option.map_eq_some_iff.1 hc; simp [AOp.kind] at hk; done)
  all_goals
    (repeat' split at hc)
    all_goals first
      | (cases hc; done)
      | (cases hc; simp [AOp.kind] at hk; done)
      | (obtain ⟨_, _, rfl⟩ := Option.map_eq_some_iff.1 hc; simp [AOp.kind] at hk; done)

/-! ### New memory -/

/-- What making leaves: an object behind the others; and a value that leads to it, wherever an abstract block is laid there. -/
def Makes (P : Program) (γ : Pl) (ob : AObj) (f : Nat → AVal) (s : Sem Next) (w : World) : Prop :=
  ∃ v' w' o z, s.run P w = .ok (.value v') w' ∧ w'.heap = w.heap.push o ∧ w'.os = w.os ∧ w'.tape = w.tape ∧ w'.output = w.output ∧
    (∀ γ', Ext γ γ' → objRel γ' ob 0 z o) ∧ (∀ γ' b, γ' b = some (w.heap.size, 0, z) → rel γ' (f b) v')

theorem rels_objRel {γ : Pl} {l : List AVal} {cs : Array Value} (h : rels γ l cs.toList) (e : TypeId) (γ' : Pl) (hx : Ext γ γ') :
    objRel γ' (.cells l) 0 cs.size (.cells cs e) := by
  have hl := rels_length h
  simp only [Array.length_toList] at hl
  refine ⟨cs, e, 0, 0, rfl, rfl, by omega, ?_, .inl rfl⟩
  rw [List.drop_zero, List.take_of_length_le (by simp; omega)]
  exact rels_mono hx _ _ h

theorem zeros_run (z : Array Value) (n st : Nat) (hz : z.size = st) : ((Array.range (n * st)).map (fun i => z[i % z.size]!)).toList = (List.replicate n z.toList).flatten := by
  subst hz
  rw [Array.toList_map, Array.toList_range]
  induction n with
  | zero => simp
  | succ n ih =>
    rw [Nat.succ_mul, List.range_add, List.map_append, ih, List.replicate_succ', List.flatten_append]
    congr 1
    simp only [List.map_map, List.flatten_cons, List.flatten_nil, List.append_nil]
    apply List.ext_getElem
    · simp
    · intro i h1 h2
      simp at h1
      simp only [List.getElem_map, List.getElem_range, Function.comp, Nat.mul_add_mod_self_right, Array.getElem_toList]
      rw [Nat.mod_eq_of_lt h1, getElem!_pos z i h1]

theorem elemT_spec {e : TypeId} {st b : Nat} {z : List Value} (h : elemT P e = some (st, z, b)) :
    ∃ zv, size? P e = some st ∧ zero? P e = some zv ∧ bytes? P e = some b ∧ z = zv.cells.toList ∧ zv.cells.size = st := by
  unfold elemT at h
  split at h
  · rename_i st' zv b' h1 h2 h3
    split at h <;> simp at h
    rename_i hl
    obtain ⟨rfl, rfl, rfl⟩ := h
    exact ⟨zv, h1, h2, h3, rfl, by simpa using hl⟩
  · cases h

theorem bytes_run {t : TypeId} {b : Nat} (h : bytes? P t = some b) : ∃ i, P.info? t = some i ∧ i.bytes = b := by
  unfold bytes? at h
  cases hi : P.info? t with
  | none => rw [hi] at h; cases h
  | some i => rw [hi] at h; exact ⟨i, rfl, by simpa using h⟩

theorem freeze_alloc (w : World) (cs : Array Value) (e : TypeId) :
    (w.alloc (.cells cs e)).freeze ⟨w.heap.size, cs.size, none⟩ 1 = w.alloc (.cells cs e (cs.size, cs.size + 1)) := by
  show ({ w with heap := (w.heap.push (.cells cs e)).modify w.heap.size _ } : World) = { w with heap := w.heap.push (.cells cs e (cs.size, cs.size + 1)) }
  congr 1
  apply Array.ext_getElem?
  intro i
  rw [Array.getElem?_modify, Array.getElem?_push, Array.getElem?_push]
  by_cases h : i = w.heap.size
  · subst h; simp
  · simp [h, Ne.symm h]

theorem make_run {γ : Pl} {w : World} {ρ : Operand → AVal} {ρ' : Operand → Value} (hρ : ∀ x, rel γ (ρ x) (ρ' x)) {o : Oper} {a : AOp}
    (hc : compOp P o.op = some a) (hk : a.kind = 2) {ob : AObj} {f : Nat → AVal} (h : makeOp ρ a = some (ob, f)) : Makes P γ ob f (execOp ρ' o) w := by
  obtain ⟨dst, op, type, pos, after, guard⟩ := o
  cases op <;> simp only [compOp] at hc <;> try (cases hc; done)
  case makeFunc fn first caps => cases fn <;> simp at hc; subst hc; simp [AOp.kind] at hk
  case alloc e =>
    cases hz : zero? P e with
    | none => rw [hz] at hc; cases hc
    | some z =>
      rw [hz] at hc
      cases hc
      simp only [makeOp, Option.some.injEq, Prod.mk.injEq] at h
      obtain ⟨rfl, rfl⟩ := h
      refine ⟨.pointer (some ⟨w.heap.size, 0, none⟩), w.alloc (.cells z.cells e), .cells z.cells e, z.cells.size, by simp [execOp, Instr.alloc, zero_run hz, newVar, newRow], rfl, rfl, rfl, rfl,
        fun γ' hx => rels_objRel (γ := γ) (by simpa using rels_prims γ z.cells.toList) e γ' hx, fun γ' b hb => ?_⟩
      simp only [rel]
      exact ⟨_, _, _, hb, rfl⟩
  case box e x =>
    cases hc
    simp only [makeOp, Option.some.injEq, Prod.mk.injEq] at h
    obtain ⟨rfl, rfl⟩ := h
    refine ⟨.pointer (some ⟨w.heap.size, 0, none⟩), w.alloc (.cells (ρ' x).cells e), .cells (ρ' x).cells e, (ρ' x).cells.size, by simp [execOp, Instr.box, newVar, newRow], rfl, rfl, rfl, rfl,
      fun γ' hx => rels_objRel (rel_cells (hρ x)) e γ' hx, fun γ' b hb => ?_⟩
    simp only [rel]
    exact ⟨_, _, _, hb, rfl⟩
  case buildSlice t len parts =>
    split at hc <;> try (cases hc; done)
    rename_i e hd
    split at hc <;> try (cases hc; done)
    rename_i st z bb he
    split at hc <;> try (cases hc; done)
    rename_i hle
    obtain ⟨l, hl, rfl⟩ := Option.map_eq_some_iff.1 hc
    obtain ⟨zv, h1, h2, h3, rfl, h5⟩ := elemT_spec he
    simp only [makeOp] at h
    split at h <;> simp at h
    rename_i r hf
    obtain ⟨rfl, rfl⟩ := h
    have hzr : rels γ (rep len (prims zv.cells.toList)) ((Array.range (len * st)).map (fun i => zv.cells[i % zv.cells.size]!)).toList := by
      rw [zeros_run _ _ _ h5]
      exact rels_flatten_replicate (rels_prims γ _) len
    obtain ⟨cs', g1, g2⟩ := fill_run hρ parts.toList l _ _ r hl hzr hf
    have hn : ¬ (len * st > 2 ^ 24) := by
      have : (2 : Nat) ^ 20 ≤ 2 ^ 24 := by decide
      omega
    have hlen : cs'.size = len * st := by
      have e1 := rels_length g2
      have : r.length = len * st := by
        have afill_len : ∀ (ps : List (Nat × Nat × AVal)) (c r : List AVal), afill c ps = some r → r.length = c.length := by
          intro ps
          induction ps with
          | nil => intro c r h; simp [afill] at h; rw [h]
          | cons p ps ih =>
            intro c r h
            obtain ⟨o, n, v⟩ := p
            simp only [afill] at h
            split at h
            · rename_i hh
              rw [ih _ _ h]
              simp
              omega
            · cases h
        rw [afill_len _ _ _ hf]
        simp [rep, prims, h5]
      simp at e1
      omega
    have hn' : ¬ (16777216 < len * st) := by simpa using hn
    refine ⟨.slice (some ⟨w.heap.size, 0, none⟩) len len, w.alloc (.cells cs' e), .cells cs' e, cs'.size, ?_, rfl, rfl, rfl, rfl, fun γ' hx => rels_objRel g2 e γ' hx, fun γ' b hb => ?_⟩
    · by_cases h0 : len * st = 0
      · have g1' : Instr.fill (fun i => some (i * st, st)) #[] (parts.toList.map fun p => (p.1, ρ' p.2)) = some cs' := by
          rw [h0, Array.range_zero'] at g1; simpa using g1
        simp [execOp, Instr.buildSlice, und_run hd, size_run h1, h0, Array.range_zero', g1', newRow]
      · simp [execOp, Instr.buildSlice, und_run hd, size_run h1, h0, hn', zero_run h2, g1, newRow]
    · simp only [rel]
      exact ⟨_, _, _, 0, len, hb, rfl, Nat.le_refl _, fun m hm => by simpa using hm, .inr rfl, fun hc => by cases hc⟩
  case makeMap t r =>
    cases r <;> simp at hc
    subst hc
    simp only [makeOp, Option.some.injEq, Prod.mk.injEq] at h
    obtain ⟨rfl, rfl⟩ := h
    refine ⟨.map (some w.heap.size), w.alloc (.map #[] 0), .map #[] 0, 0, by simp [execOp, Instr.makeMap], rfl, rfl, rfl, rfl, fun γ' hx => ?_, fun γ' b hb => ?_⟩
    · exact ⟨#[], 0, rfl, rfl, fun i k v h => by simp at h, fun i en h => by simp at h, fun i j en em _ h => by simp at h⟩
    · simp only [rel]
      exact ⟨_, _, _, hb, rfl⟩
  case makeSlice t l c =>
    split at hc <;> try (cases hc; done)
    rename_i e hd
    split at hc <;> simp at hc
    rename_i st z bb he
    subst hc
    obtain ⟨zv, h1, h2, h3, rfl, h5⟩ := elemT_spec he
    obtain ⟨i, hi, hib⟩ := bytes_run h3
    simp only [makeOp] at h
    split at h <;> try (cases h; done)
    rename_i n m e1 e2
    split at h <;> simp at h
    rename_i hcond
    obtain ⟨c1, c2, c3, c4⟩ := hcond
    obtain ⟨rfl, rfl⟩ := h
    have hl := hρ l
    have hcc := hρ c
    rw [e1, rel_prim] at hl
    rw [e2, rel_prim] at hcc
    have hwn : IntKind.i64.wrap n = n := IntWalk.i64_in n ⟨by omega, by omega⟩
    have hwm : IntKind.i64.wrap m = m := IntWalk.i64_in m ⟨by omega, by omega⟩
    have hbm : ¬ ((bb : Int) * m > 2 ^ 48) := by
      have : (2 : Int) ^ 47 ≤ 2 ^ 48 := by decide
      omega
    have t1 : ¬ (((m < 0 ∨ 281474976710656 < (bb : Int) * m) ∨ n < 0) ∨ m < n) := by
      have : ¬ (281474976710656 < (bb : Int) * m) := by simpa using hbm
      omega
    have hzr : rels γ (rep m.toNat (prims zv.cells.toList)) ((Array.range (m.toNat * st)).map (fun i => zv.cells[i % zv.cells.size]!)).toList := by
      rw [zeros_run _ _ _ h5]
      exact rels_flatten_replicate (rels_prims γ _) _
    refine ⟨.slice (some ⟨w.heap.size, 0, none⟩) n.toNat m.toNat, w.alloc (.cells ((Array.range (m.toNat * st)).map (fun i => zv.cells[i % zv.cells.size]!)) e), .cells ((Array.range (m.toNat * st)).map (fun i => zv.cells[i % zv.cells.size]!)) e, _, ?_, rfl, rfl, rfl, rfl,
      fun γ' hx => rels_objRel hzr e γ' hx, fun γ' b hb => ?_⟩
    · by_cases h0 : m.toNat * st = 0
      · simp [execOp, Instr.makeSlice, und_run hd, hl, hcc, asInt, asIntOf, info_run hi, hib, hwn, hwm, t1, size_run h1, h0, Array.range_zero', newRow]
      · simp [execOp, Instr.makeSlice, und_run hd, hl, hcc, asInt, asIntOf, info_run hi, hib, hwn, hwm, t1, size_run h1, h0, zero_run h2, newRow]
    · simp only [rel]
      exact ⟨_, _, _, 0, m.toNat, hb, rfl, by omega, fun q hq => by simpa using hq, .inr rfl, fun hc => by cases hc⟩
  case range t x =>
    split at hc <;> try (cases hc; done)
    · rename_i hd
      cases hc
      simp only [makeOp] at h
      split at h <;> simp at h
      rename_i s hs
      obtain ⟨rfl, rfl⟩ := h
      have hx := hρ x
      rw [hs, rel_prim] at hx
      refine ⟨.pointer (some ⟨w.heap.size, 0, none⟩), w.alloc (.stringIter s 0), .stringIter s 0, 0, by simp [execOp, Instr.range, und_run hd, hx], rfl, rfl, rfl, rfl, fun γ' _ => ⟨rfl, rfl⟩, fun γ' b hb => ?_⟩
      simp only [rel]
      exact ⟨_, _, _, hb, rfl⟩
    · cases hc; simp [AOp.kind] at hk
  case convert src dst y =>
    split at hc <;> try (cases hc; done)
    · cases hc; simp [AOp.kind] at hk
    · cases hc; simp [AOp.kind] at hk
    · rename_i e hs hd
      split at hc <;> simp at hc
      rename_i he
      subst hc
      simp only [makeOp] at h
      split at h <;> simp at h
      rename_i s hv
      obtain ⟨rfl, rfl⟩ := h
      have hx := hρ y
      rw [hv, rel_prim] at hx
      have hcap : ∃ k, Question.cut (.appendCap s.size 0 e) (w.tape w.drawn (.appendCap s.size 0 e)) = s.size + k := ⟨_, rfl⟩
      obtain ⟨k, hk'⟩ := hcap
      have hf : (Question.appendCap s.size 0 e).forced = false := rfl
      let cs : Array Value := s.data.map (fun b => Value.int .u8 b.toNat) ++ Array.replicate k (.int .u8 0)
      have hsz : cs.size = s.size + k := by simp [cs]
      refine ⟨.slice (some ⟨w.heap.size, 0, none⟩) s.size (s.size + k), w.drew.alloc (.cells cs e (cs.size, cs.size + 1)), .cells cs e (cs.size, cs.size + 1), cs.size, ?_, rfl, rfl, rfl, rfl, fun γ' _ => ?_, fun γ' b hb => ?_⟩
      · have hsh : (w.drew.alloc (.cells cs e)).shape? w.heap.size = some (e, cs.size) := by
          show (match (w.heap.push (.cells cs e))[w.heap.size]? with | some (.cells c elem _) => some (elem, c.size) | _ => none) = _
          simp
        simp only [execOp, convert, Sem.run_bind, und_run hs, und_run hd, und_run he, Result.andThen_ok, hx, Conv.stringToBytes, run_choose, hf, Bool.false_eq_true, if_false, hk', Nat.add_sub_cancel_left,
          newRow, run_newObj, Sem.run_pure, markStringish, run_shape]
        change (((Sem.run P (match (w.drew.alloc (.cells cs e)).shape? w.heap.size with
            | some (_, n) => freeze { block := w.heap.size, off := n } 1
            | _ => pure ()) (w.drew.alloc (.cells cs e))).andThen fun a w' => Result.ok (Value.slice (some ⟨w.heap.size, 0, none⟩) s.size (s.size + k)) w').andThen
              fun a w' => Result.ok (Next.value a) w') = _
        rw [hsh]
        simp only [run_freeze, Result.andThen_ok]
        exact congrArg _ (freeze_alloc w.drew cs e)
      · refine ⟨cs, e, cs.size, cs.size + 1, rfl, rfl, ?_, ?_, .inr (Nat.le_refl _)⟩
        · simp [byteCells, hsz]
        · have hlen : (byteCells s).length = (s.data.toList.map fun b => Value.int .u8 b.toNat).length := by simp [byteCells]
          have hcs : cs.toList = (s.data.toList.map fun b => Value.int .u8 b.toNat) ++ List.replicate k (.int .u8 0) := by simp [cs]
          rw [hcs, List.drop_zero, hlen, List.take_left]
          exact rels_map (fun x => by rw [rel_prim]) _
      · simp only [rel]
        exact ⟨_, _, _, 0, s.size + k, hb, rfl, by omega, fun m hm => by simp at hm, .inr rfl, fun _ => by omega⟩
    · split at hc <;> simp at hc
      subst hc; simp [AOp.kind] at hk
    · split at hc <;> simp at hc
      obtain ⟨_, rfl⟩ := hc; simp [AOp.kind] at hk
  case call c =>
    unfold compCall at hc
    (repeat' split at hc)
    all_goals first
      | (cases hc; done)
      | (cases hc; simp [AOp.kind] at hk; done)
      | (obtain ⟨_, _, rfl⟩ := Option.map_eq_some_iff.1 hc; simp [AOp.kind] at hk; done)
  all_goals
    (repeat' split at hc)
    all_goals first
      | (cases hc; done)
      | (cases hc; simp [AOp.kind] at hk; done)
      | (obtain ⟨_, _, rfl⟩ := Option.map_eq_some_iff.1 hc; simp [AOp.kind] at hk; done)
end
end Go.AM
