/- Operations that touch no memory: what the abstract machine does the model does. No condition. -/
import Derived.Test.YtgmahpnjeclipaaGreatDoorAm7
namespace Go.AM
section
variable {P : Program}

theorem extract_run {γ : Pl} {x : AVal} {x' : Value} {i : Nat} {v : AVal} (hx : rel γ x x') (h : aextract x i = some v) (w : World) :
    ∃ v', (Instr.extract x' i).run P w = .ok v' w ∧ rel γ v v' := by
  unfold aextract at h
  split at h
  · obtain ⟨cs, rfl, r⟩ := (by simpa only [rel] using hx)
    obtain ⟨v', e, r'⟩ := rels_get r i v h
    have e' : cs[i]? = some v' := by simpa using e
    exact ⟨v', by simp [Instr.extract, e'], r'⟩
  · rename_i vs
    rw [rel_prim] at hx
    subst hx
    cases e : vs[i]? with
    | none => rw [e] at h; cases h
    | some u =>
      rw [e] at h
      simp at h
      subst h
      exact ⟨u, by simp [Instr.extract, e], by rw [rel_prim]⟩
  · cases h

theorem minl_run {γ : Pl} (mx : Bool) : ∀ (l : List AVal) (l' : List Value) (x : AVal) (x' : Value) (v : AVal) (w : World), rel γ x x' → rels γ l l' → aminl mx x l = some v →
    ∃ v', (l'.foldlM (if mx then Builtin.max2 else Builtin.min2) x').run P w = .ok v' w ∧ rel γ v v'
  | [], [], x, x', v, w, hx, _, h => by
    simp [aminl] at h
    subst h
    exact ⟨x', by simp, hx⟩
  | y :: l, y' :: l', x, x', v, w, hx, hl, h => by
    simp only [rels] at hl
    simp only [aminl] at h
    split at h
    · rename_i z hz
      unfold amin2 at hz
      split at hz <;> simp at hz
      rename_i k a k' b
      have hy := hl.1
      rw [rel_prim] at hx hy
      subst hx hy hz
      obtain ⟨v', h1, h2⟩ := minl_run mx l l' _ _ v w (by rw [rel_prim]) hl.2 h
      refine ⟨v', ?_, h2⟩
      rw [← h1, List.foldlM_cons]
      cases mx <;> simp [Builtin.max2, Builtin.min2, iltF_eq]
    · cases h
  | [], _ :: _, _, _, _, _, _, hl, _ => by simp [rels] at hl
  | _ :: _, [], _, _, _, _, _, hl, _ => by simp [rels] at hl

theorem rels_mapOp {γ : Pl} {ρ : Operand → AVal} {ρ' : Operand → Value} (hρ : ∀ x, rel γ (ρ x) (ρ' x)) (l : List Operand) : rels γ (l.map ρ) (l.map ρ') := rels_map hρ l

/-- What an operation's run is: a value, and the world as it was. -/
def Gives (P : Program) (γ : Pl) (v : AVal) (s : Sem Next) : Prop := ∀ w, ∃ v', s.run P w = .ok (.value v') w ∧ rel γ v v'

theorem gives_v {γ : Pl} {v : AVal} {s : Sem Value} (h : ∀ w, ∃ v', s.run P w = .ok v' w ∧ rel γ v v') : Gives P γ v (do pure (.value (← s))) := fun w => by
  obtain ⟨v', e, r⟩ := h w
  exact ⟨v', by simp [e], r⟩

theorem call_builtin {γ : Pl} {c : Call} {b : Builtin} (hb : c.callee = .builtin b) (ρ' : Operand → Value) (t : TypeId) {v : AVal} {s : Sem Value}
    (hs : ∀ cs : Array Bool, builtin b c.argTypes t cs (c.args.map ρ') = (do pure (.value (← s)))) (h : ∀ w, ∃ v', s.run P w = .ok v' w ∧ rel γ v v') :
    Gives P γ v (do let d ← resolve ρ' c t; invoke d.target d.args) := fun w => by
  obtain ⟨v', e, r⟩ := h w
  refine ⟨v', ?_, r⟩
  simp only [resolve, hb, Sem.run_bind, Sem.run_pure, Result.andThen_ok, invoke, hs, e]

theorem callPure {γ : Pl} {ρ : Operand → AVal} {ρ' : Operand → Value} (hρ : ∀ x, rel γ (ρ x) (ρ' x)) {c : Call} {t : TypeId} {a : AOp} (hc : compCall P c = some a)
    (hk : a.kind = 0) {v : AVal} (h : pureOp ρ a = some v) : Gives P γ v (do let d ← resolve ρ' c t; invoke d.target d.args) := by
  unfold compCall at hc
  split at hc
  · cases hc; simp [AOp.kind] at hk
  · cases hc; simp [AOp.kind] at hk
  · split at hc <;> try (cases hc; done)
    split at hc <;> try (cases hc; done)
    split at hc <;> try (cases hc; done)
    split at hc <;> simp at hc
    subst hc; simp [AOp.kind] at hk
  · split at hc <;> try (cases hc; done)
    split at hc <;> try (cases hc; done)
    simp at hc
    obtain ⟨_, _, hc⟩ := hc
    subst hc; simp [AOp.kind] at hk
  · split at hc <;> try (cases hc; done)
    split at hc <;> try (cases hc; done)
    · split at hc <;> try (cases hc; done)
      cases hc; simp [AOp.kind] at hk
    · cases hc; simp [AOp.kind] at hk
  · split at hc <;> try (cases hc; done)
    rename_i m k t0 _ _ _
    cases hm : mapT P t0 with
    | none => rw [hm] at hc; cases hc
    | some q => rw [hm] at hc; cases hc; simp [AOp.kind] at hk
  · rename_i hb
    split at hc
    · rename_i x t0 hx ht
      have hargs : c.args.map ρ' = #[ρ' x] := by apply Array.ext'; simp [hx]
      have htys : c.argTypes = #[t0] := by apply Array.ext'; simp [ht]
      refine call_builtin hb ρ' t (s := Builtin.len_ c.argTypes t (c.args.map ρ')) (fun cs => rfl) fun w => ?_
      rw [hargs, htys]
      split at hc
      · rename_i hd
        cases hc
        simp only [pureOp, alenStr] at h
        split at h <;> simp at h
        rename_i s hs
        have := hρ x
        rw [hs, rel_prim] at this
        subst h
        exact ⟨.int .i64 s.size, by simp [Builtin.len_, und_run hd, this, goInt], by simp [int, rel_prim]⟩
      · rename_i n e hd
        cases hc
        simp only [pureOp, Option.some.injEq] at h
        subst h
        exact ⟨.int .i64 n, by simp [Builtin.len_, und_run hd, goInt], by simp [int, rel_prim]⟩
      · rename_i e hd
        cases hc
        simp only [pureOp, alenSl] at h
        split at h <;> simp at h
        · rename_i b off n st cap hs
          have := hρ x
          rw [hs] at this
          obtain ⟨c, s, z, a, k, e, hv, _⟩ := (by simpa only [rel] using this)
          subst h
          exact ⟨.int .i64 n, by simp [Builtin.len_, und_run hd, hv, goInt], by simp [int, rel_prim]⟩
        · rename_i a n k hs
          have := hρ x
          rw [hs, rel_prim] at this
          subst h
          exact ⟨.int .i64 n, by simp [Builtin.len_, und_run hd, this, goInt], by simp [int, rel_prim]⟩
      · cases hc; simp [AOp.kind] at hk
      · rename_i e hd
        split at hc <;> simp at hc
        rename_i n e' hd'
        subst hc
        simp only [pureOp, Option.some.injEq] at h
        subst h
        exact ⟨.int .i64 n, by simp [Builtin.len_, und_run hd, und_run hd', goInt], by simp [int, rel_prim]⟩
      · cases hc
    · cases hc
  · rename_i hb
    split at hc
    · rename_i x t0 hx ht
      split at hc <;> simp at hc
      rename_i e hd
      subst hc
      have hargs : c.args.map ρ' = #[ρ' x] := by apply Array.ext'; simp [hx]
      have htys : c.argTypes = #[t0] := by apply Array.ext'; simp [ht]
      refine call_builtin hb ρ' t (s := Builtin.cap_ c.argTypes t (c.args.map ρ')) (fun cs => rfl) fun w => ?_
      rw [hargs, htys]
      simp only [pureOp] at h
      split at h <;> simp at h
      · rename_i b off n st k hs
        have := hρ x
        rw [hs] at this
        obtain ⟨c, s, z, a, k', e, hv, _, hk', _⟩ := (by simpa only [rel] using this)
        have hk' := hk' k rfl
        subst h hk'
        exact ⟨.int .i64 k', by simp [Builtin.cap_, und_run hd, hv, goInt], by simp [int, rel_prim]⟩
      · rename_i a n k hs
        have := hρ x
        rw [hs, rel_prim] at this
        subst h
        exact ⟨.int .i64 k, by simp [Builtin.cap_, und_run hd, this, goInt], by simp [int, rel_prim]⟩
    · cases hc
  · rename_i hb
    split at hc <;> simp at hc
    rename_i x rest hx
    subst hc
    have hargs : (c.args.map ρ').toList = ρ' x :: rest.map ρ' := by simp [hx]
    refine call_builtin hb ρ' t (s := Builtin.max_ c.argTypes t (c.args.map ρ')) (fun cs => rfl) fun w => ?_
    simp only [pureOp] at h
    obtain ⟨v', e, r⟩ := minl_run (P := P) true _ _ _ _ v w (hρ x) (rels_mapOp hρ rest) h
    exact ⟨v', by simp only [Builtin.max_, hargs]; exact e, r⟩
  · rename_i hb
    split at hc <;> simp at hc
    rename_i x rest hx
    subst hc
    have hargs : (c.args.map ρ').toList = ρ' x :: rest.map ρ' := by simp [hx]
    refine call_builtin hb ρ' t (s := Builtin.min_ c.argTypes t (c.args.map ρ')) (fun cs => rfl) fun w => ?_
    simp only [pureOp] at h
    obtain ⟨v', e, r⟩ := minl_run (P := P) false _ _ _ _ v w (hρ x) (rels_mapOp hρ rest) h
    exact ⟨v', by simp only [Builtin.min_, hargs]; exact e, r⟩
  · cases hc

/-- An operation that touches no memory: all but one that hands a slice on as it is. -/
theorem pure_run {γ : Pl} {ρ : Operand → AVal} {ρ' : Operand → Value} (hρ : ∀ x, rel γ (ρ x) (ρ' x)) {o : Oper} {a : AOp} (hc : compOp P o.op = some a)
    (hk : a.kind = 0) (hs : ∀ x, a ≠ .same x) {v : AVal} (h : pureOp ρ a = some v) : Gives P γ v (execOp ρ' o) := by
  obtain ⟨dst, op, type, pos, after, guard⟩ := o
  cases op <;> simp only [compOp] at hc <;> try (cases hc; done)
  case move x =>
    cases hc; simp [pureOp] at h; subst h
    exact fun w => ⟨ρ' x, by simp [execOp], hρ x⟩
  case assign x =>
    cases hc; simp [pureOp] at h; subst h
    exact fun w => ⟨ρ' x, by simp [execOp], hρ x⟩
  case pick c x y =>
    cases hc
    simp only [pureOp] at h
    have hcv := hρ c
    split at h <;> simp at h
    · rename_i e
      rw [e, rel_prim] at hcv
      subst h
      exact fun w => ⟨ρ' x, by simp [execOp, hcv, asBool], hρ x⟩
    · rename_i e
      rw [e, rel_prim] at hcv
      subst h
      exact fun w => ⟨ρ' y, by simp [execOp, hcv, asBool], hρ y⟩
  case alloc e => simp at hc; obtain ⟨_, _, hc⟩ := hc; subst hc; simp [AOp.kind] at hk
  case box e x => cases hc; simp [AOp.kind] at hk
  case build t parts =>
    split at hc <;> try (cases hc; done)
    · rename_i z fields hz hd
      split at hc <;> simp at hc
      rename_i hsz
      obtain ⟨l, hl, rfl⟩ := hc
      simp only [pureOp] at h
      cases hf : afill (prims z.cells.toList) (l.map fun p => (p.1, p.2.1, ρ p.2.2)) with
      | none => rw [hf] at h; cases h
      | some r =>
        rw [hf] at h
        simp at h
        subst h
        exact gives_v fun w => build_struct hd hz hsz hρ hl hf w
    · rename_i z n e hz hd
      split at hc <;> simp at hc
      rename_i st hst
      obtain ⟨l, hl, rfl⟩ := hc
      simp only [pureOp] at h
      cases hf : afill (prims z.cells.toList) (l.map fun p => (p.1, p.2.1, ρ p.2.2)) with
      | none => rw [hf] at h; cases h
      | some r =>
        rw [hf] at h
        simp at h
        subst h
        exact gives_v fun w => build_array hd hz hst hρ hl hf w
  case buildSlice t n parts =>
    split at hc <;> try (cases hc; done)
    split at hc <;> try (cases hc; done)
    split at hc <;> simp at hc
    obtain ⟨_, _, hc⟩ := hc
    subst hc; simp [AOp.kind] at hk
  case insert t m k x => 
    cases hm : mapT P t with
    | none => rw [hm] at hc; cases hc
    | some q => rw [hm] at hc; cases hc; simp [AOp.kind] at hk
  case load t x => simp at hc; obtain ⟨_, _, hc⟩ := hc; subst hc; simp [AOp.kind] at hk
  case store t x y => simp at hc; obtain ⟨_, _, hc⟩ := hc; subst hc; simp [AOp.kind] at hk
  case nilCheck x =>
    cases hc
    simp only [pureOp, anilCheck] at h
    have hx := hρ x
    split at h <;> simp at h
    · rename_i b off e
      rw [e] at hx
      subst h
      have hx' := hx
      obtain ⟨c, s, z, e', hv⟩ := (by simpa only [rel] using hx)
      exact fun w => ⟨ρ' x, by simp [execOp, hv], hx'⟩
    · rename_i f first caps e
      rw [e] at hx
      subst h
      have hx' := hx
      obtain ⟨fs, cs, hv, _⟩ := (by simpa only [rel] using hx)
      exact fun w => ⟨ρ' x, by simp [execOp, hv], hx'⟩
    · rename_i a e
      rw [e] at hx
      subst h
      have hx' := hx
      rw [rel_prim] at hx
      exact fun w => ⟨ρ' x, by simp [execOp, hx], hx'⟩
  case binOp op t x y yt =>
    cases hc
    simp only [pureOp] at h
    exact gives_v fun w => bin_run h (hρ x) (hρ y) x y w
  case unOp op t x =>
    cases hc
    simp only [pureOp, aun] at h
    have hx := hρ x
    refine gives_v fun w => ?_
    split at h
    · rename_i k n e
      rw [e, rel_prim] at hx
      obtain ⟨v', e1, e2⟩ := int_arith (P := P) .sub k 0 n v w (by simp) (by simp) h
      exact ⟨v', by simpa [Op.unary, hx] using e1, by rw [e2, rel_prim]⟩
    · rename_i k n e
      rw [e, rel_prim] at hx
      obtain ⟨v', e1, e2⟩ := int_arith (P := P) .xor k (if k.signed then -1 else k.max) n v w (by simp) (by simp) h
      exact ⟨v', by simpa [Op.unary, hx] using e1, by rw [e2, rel_prim]⟩
    · rename_i b e
      rw [e, rel_prim] at hx
      simp at h
      subst h
      exact ⟨.bool (!b), by simp [Op.unary, hx], by simp [abool, rel_prim]⟩
    · cases h
  case convert src dst x =>
    have hx := hρ x
    split at hc
    · rename_i k1 k hsrc hdst
      cases hc
      simp only [pureOp, aconv] at h
      split at h <;> simp at h
      rename_i k2 n e
      rw [e, rel_prim] at hx
      subst h
      exact gives_v fun w => ⟨.int k (k.wrap n), by simp [convert, und_run hsrc, und_run hdst, hx, Conv.intToInt], by simp [rel_prim, wrapF_eq]⟩
    · rename_i hsrc hdst
      cases hc
      simp only [pureOp] at h
      split at h <;> simp at h
      rename_i s e
      rw [e, rel_prim] at hx
      subst h
      exact gives_v fun w => ⟨.string s, by simp [convert, und_run hsrc, und_run hdst, hx], by simp [rel_prim]⟩
    · split at hc <;> simp at hc
      subst hc; simp [AOp.kind] at hk
    · split at hc <;> simp at hc
      subst hc; simp [AOp.kind] at hk
    · split at hc <;> simp at hc
      exact absurd hc.2.symm (hs x)
    · cases hc
  case makeFunc fn first caps =>
    cases fn <;> simp at hc
    subst hc
    simp only [pureOp, Option.some.injEq] at h
    subst h
    refine gives_v fun w => ⟨_, rfl, ?_⟩
    simp only [rel]
    exact ⟨_, _, rfl, by simpa using rels_mapOp hρ first.toList, by simpa using rels_mapOp hρ caps.toList⟩
  case makeMap t r => cases r <;> simp at hc; subst hc; simp [AOp.kind] at hk
  case makeSlice t l c =>
    split at hc <;> try (cases hc; done)
    split at hc <;> simp at hc
    subst hc; simp [AOp.kind] at hk
  case slice t x lo hi mx =>
    split at hc <;> try (cases hc; done)
    · rename_i n e hd
      split at hc <;> simp at hc
      rename_i hmx
      obtain ⟨st, hst, rfl⟩ := hc
      cases mx with
      | some _ => simp at hmx
      | none => exact gives_v fun w => sliceArr_run hd hst (hρ x) (relO_map hρ lo) (relO_map hρ hi) h w
    · rename_i hd
      split at hc <;> simp at hc
      rename_i hmx
      subst hc
      cases mx with
      | some _ => simp at hmx
      | none => exact gives_v fun w => sliceStr_run hd (hρ x) (relO_map hρ lo) (relO_map hρ hi) h w
    · rename_i e hd
      simp at hc
      obtain ⟨st, hst, rfl⟩ := hc
      exact gives_v fun w => slice_run hd hst (hρ x) (relO_map hρ lo) (relO_map hρ hi) (relO_map hρ mx) h w
  case fieldAddr t x f =>
    split at hc <;> try (cases hc; done)
    rename_i fields hd
    split at hc <;> try (cases hc; done)
    rename_i off n hp
    split at hc <;> simp at hc
    rename_i hn
    subst hc
    simp only [pureOp, afieldAddr] at h
    have hx := hρ x
    split at h <;> simp at h
    rename_i b o e
    rw [e] at hx
    subst h
    obtain ⟨c, s, z, e', hv⟩ := (by simpa only [rel] using hx)
    simp only [placeT] at hp
    split at hp <;> simp at hp
    rename_i fd hf
    obtain ⟨hn', rfl⟩ := hp
    refine gives_v fun w => ⟨.pointer (some ⟨c, s + o + fd.offset, none⟩), ?_, ?_⟩
    · simp [Instr.fieldAt, und_run hd, hf, hv, Instr.sureAddr, fieldPlace, size_run hn', hn, addr_add]
    · simp only [rel]
      exact ⟨c, s, z, e', by rw [Nat.add_assoc]⟩
  case field t x f =>
    split at hc <;> try (cases hc; done)
    rename_i fields hd
    split at hc <;> simp at hc
    rename_i fd hf
    obtain ⟨k, hk', rfl⟩ := hc
    simp only [pureOp, afield] at h
    split at h <;> try (cases h; done)
    rename_i l hl
    obtain ⟨cs, hv, r⟩ := rel_aggCells (hρ x) hl
    refine gives_v fun w => ?_
    obtain ⟨v', e, r'⟩ := part_run hk' r h w
    exact ⟨v', by simp [Instr.field, und_run hd, hf, hv, asAgg, e], r'⟩
  case indexAddr t x i =>
    have hx := hρ x
    have hi := hρ i
    split at hc <;> try (cases hc; done)
    · rename_i n e hd
      simp at hc
      obtain ⟨st, hst, rfl⟩ := hc
      simp only [pureOp, aindexArr] at h
      split at h <;> try (cases h; done)
      rename_i b off k m e1 e2
      split at h <;> simp at h
      rename_i hm
      subst h
      rw [e1] at hx
      rw [e2, rel_prim] at hi
      obtain ⟨c, s, z, e', hv⟩ := (by simpa only [rel] using hx)
      refine gives_v fun w => ⟨.pointer (some ⟨c, s + off + m.toNat * st, none⟩), ?_, ?_⟩
      · simp [Instr.indexAt, und_run hd, hv, hi, asIntOf, Instr.sureAddr, size_run hst, hm, addr_add]
      · simp only [rel]
        exact ⟨c, s, z, e', by rw [Nat.add_assoc]⟩
    · rename_i e hd
      simp at hc
      obtain ⟨st, hst, rfl⟩ := hc
      simp only [pureOp, aindexSl] at h
      split at h <;> try (cases h; done)
      rename_i b off len st' cap k m e1 e2
      split at h <;> simp at h
      rename_i hm
      obtain ⟨rfl, hm⟩ := hm
      subst h
      rw [e1] at hx
      rw [e2, rel_prim] at hi
      obtain ⟨c, s, z, a, k', e', hv, hlk, _, ha, _⟩ := (by simpa only [rel] using hx)
      have ha : a = s + off := ha.resolve_left (by omega)
      subst ha
      refine gives_v fun w => ⟨.pointer (some ⟨c, s + off + m.toNat * st, none⟩), ?_, ?_⟩
      · simp [Instr.indexAt, und_run hd, hv, hi, asIntOf, size_run hst, hm, addr_add]
      · simp only [rel]
        exact ⟨c, s, z, e', by rw [Nat.add_assoc]⟩
  case index t x i =>
    have hi := hρ i
    split at hc <;> try (cases hc; done)
    · rename_i n e hd
      split at hc <;> simp at hc
      rename_i st k hst hk'
      subst hc
      simp only [pureOp, aatArr] at h
      split at h <;> try (cases h; done)
      rename_i l k' m hl e2
      split at h <;> try (cases h; done)
      rename_i hm
      obtain ⟨cs, hv, r⟩ := rel_aggCells (hρ x) hl
      rw [e2, rel_prim] at hi
      refine gives_v fun w => ?_
      obtain ⟨v', e3, r'⟩ := part_run hk' r h w
      exact ⟨v', by simp [Instr.index, und_run hd, hv, hi, asIntOf, hm, size_run hst, e3], r'⟩
    · rename_i hd
      cases hc
      have hx := hρ x
      simp only [pureOp, aatStr] at h
      split at h <;> try (cases h; done)
      rename_i s k m e1 e2
      split at h <;> simp at h
      rename_i hm
      obtain ⟨c, hc, rfl⟩ := h
      rw [e1, rel_prim] at hx
      rw [e2, rel_prim] at hi
      refine gives_v fun w => ⟨.int .u8 c.toNat, ?_, by rw [rel_prim]⟩
      simp [Instr.index, und_run hd, hx, hi, asIntOf, hm, hc]
  case lookup t m k ok =>
    split at hc <;> simp at hc
    subst hc; simp [AOp.kind] at hk
  case mapUpdate t m k x => 
    cases hm : mapT P t with
    | none => rw [hm] at hc; cases hc
    | some q => rw [hm] at hc; cases hc; simp [AOp.kind] at hk
  case range t x => split at hc <;> simp at hc <;> (subst hc; simp [AOp.kind] at hk)
  case next x s => cases hc; simp [AOp.kind] at hk
  case extract x i =>
    cases hc
    simp only [pureOp] at h
    exact gives_v fun w => extract_run (hρ x) h w
  case call c => exact callPure hρ hc hk h
end
end Go.AM
