/- Operations that read memory. No condition. -/
import Derived.Test.YtgmahpnjeclipaaGreatDoorAm8
namespace Go.AM
section
variable {P : Program}

theorem cell_of {w : World} {c : Nat} {cs : Array Value} {e : TypeId} {fr : Nat × Nat} (h : w.heap[c]? = some (.cells cs e fr)) (o : Nat) :
    w.cell? ⟨c, o, none⟩ = cs[o]? := by
  simp [World.cell?, h]

theorem loadFrom_run {w : World} {c o : Nat} {cs : Array Value} {e : TypeId} {fr : Nat × Nat} (h : w.heap[c]? = some (.cells cs e fr)) :
    ∀ (n i : Nat) (acc : Array Value), o + i + n ≤ cs.size →
      ∃ r, (loadCellsFrom ⟨c, o, none⟩ i n acc).run P w = .ok r w ∧ r.toList = acc.toList ++ (cs.toList.drop (o + i)).take n
  | 0, i, acc, _ => ⟨acc, by simp [loadCellsFrom], by simp⟩
  | n + 1, i, acc, hle => by
    have hlt : o + i < cs.size := by omega
    obtain ⟨r, h1, h2⟩ := loadFrom_run (o := o) h n (i + 1) (acc.push cs[o + i]) (by omega)
    refine ⟨r, ?_, ?_⟩
    · simp only [loadCellsFrom, Sem.run_bind, addr_add, run_load, cell_of h, Array.getElem?_eq_getElem hlt, Result.andThen_ok]
      exact h1
    · rw [h2]
      have : cs.toList.drop (o + i) = cs[o + i] :: cs.toList.drop (o + i + 1) := by
        rw [List.drop_eq_getElem_cons (by simpa using hlt)]; simp
      rw [this, List.take_succ_cons]
      simp [Nat.add_assoc]

theorem load_run {w : World} {c o n : Nat} {cs : Array Value} {e : TypeId} {fr : Nat × Nat} (h : w.heap[c]? = some (.cells cs e fr)) (hle : o + n ≤ cs.size) :
    ∃ r, (loadCells ⟨c, o, none⟩ n).run P w = .ok r w ∧ r.toList = (cs.toList.drop o).take n := by
  obtain ⟨r, h1, h2⟩ := loadFrom_run (P := P) (w := w) h n 0 #[] (by omega)
  exact ⟨r, h1, by simpa using h2⟩

/-- The cells of a live block. -/
theorem cells_live {γ : Pl} {H : AHeap} {w : World} (hw : Rw γ H w) {b c s z : Nat} {l : List AVal} (hb : γ b = some (c, s, z)) (hl : H.get b = some (.cells l)) :
    ∃ cs e lo hi, w.heap[c]? = some (.cells cs e (lo, hi)) ∧ cs.size = z ∧ s + l.length ≤ z ∧ rels γ l ((cs.toList.drop s).take l.length) ∧ (lo = hi ∨ z ≤ lo) := by
  obtain ⟨ob, h1, cs, e, lo, hi, rfl, h2⟩ := hw.live b c s z _ hb hl
  exact ⟨cs, e, lo, hi, h1, h2⟩

/-- A stretch of a live block. -/
theorem stretch {γ : Pl} {l : List AVal} {cs : List Value} {s : Nat} (h : rels γ l ((cs.drop s).take l.length)) (o n : Nat) (hle : o + n ≤ l.length) :
    rels γ ((l.drop o).take n) ((cs.drop (s + o)).take n) := by
  have := rels_take n (rels_drop o h)
  rw [List.drop_take, List.take_take, List.drop_drop, Nat.min_eq_left (by omega)] at this
  exact this

theorem aload_run {γ : Pl} {H : AHeap} {w : World} (hw : Rw γ H w) {t : TypeId} {k : Option Nat} (hk : kindT P t = some k) {x : AVal} {x' : Value} (hx : rel γ x x') {v : AVal}
    (h : aload k x H = some v) : ∃ v', (Instr.loadAt t x').run P w = .ok v' w ∧ rel γ v v' := by
  unfold aload at h
  split at h
  · rename_i b off
    split at h
    · rename_i l hl
      obtain ⟨c, s, z, e, rfl⟩ := (by simpa only [rel] using hx)
      obtain ⟨cs, e', lo, hi, h1, h2, h3, h4, h5⟩ := cells_live hw e hl
      obtain ⟨hagg, n, hn, hm⟩ := kind_run hk w
      cases k with
      | none =>
        simp only [apart] at h
        obtain ⟨v', g1, g2⟩ := rels_get h4 off v h
        have hlt : off < l.length := by
          rcases Nat.lt_or_ge off l.length with h' | h'
          · exact h'
          · rw [List.getElem?_eq_none h'] at h; cases h
        rw [List.getElem?_take, if_pos hlt, List.getElem?_drop, Array.getElem?_toList] at g1
        exact ⟨v', by simp [Instr.loadAt, Instr.sureAddr, loadVar, hagg, cell_of h1, g1], g2⟩
      | some m =>
        obtain rfl := hm m rfl
        simp only [apart] at h
        split at h <;> simp at h
        rename_i hle
        subst h
        obtain ⟨r, g1, g2⟩ := load_run (P := P) (w := w) (o := s + off) (n := m) h1 (by omega)
        refine ⟨.agg r, by simp [Instr.loadAt, Instr.sureAddr, loadVar, hagg, size_run hn, g1], ?_⟩
        simp only [rel]
        exact ⟨r, rfl, by rw [g2]; exact stretch h4 off m hle⟩
    · cases h
  · cases h

/-! ### Maps -/

/-- A map's kind. -/
theorem mapT_spec {t : TypeId} {str : Bool} {z : Option Value} (h : mapT P t = some (str, z)) :
    ∃ kt et kd, P.underlying t = some (.map kt et) ∧ P.underlying kt = some kd ∧ z = zero? P et ∧ ((str = false ∧ ∃ k, kd = .int k) ∨ (str = true ∧ kd = .string)) := by
  unfold mapT at h
  split at h
  · rename_i kt et hd
    split at h <;> simp at h
    · rename_i k hk
      obtain ⟨rfl, rfl⟩ := h
      exact ⟨kt, et, _, hd, hk, rfl, .inl ⟨rfl, k, rfl⟩⟩
    · rename_i hk
      obtain ⟨rfl, rfl⟩ := h
      exact ⟨kt, et, _, hd, hk, rfl, .inr ⟨rfl, rfl⟩⟩
  · cases h

theorem keyFits_spec {str : Bool} {k : AVal} {v : Value} (h : keyFits str k = some v) : k = .prim v ∧ ((str = false ∧ ∃ i n, v = .int i n) ∨ (str = true ∧ ∃ s, v = .string s)) := by
  unfold keyFits at h
  split at h
  · split at h <;> simp at h
    rename_i hs
    subst h
    exact ⟨rfl, .inl ⟨by simpa using hs, _, _, rfl⟩⟩
  · split at h <;> simp at h
    rename_i hs
    subst h
    exact ⟨rfl, .inr ⟨hs, _, rfl⟩⟩
  · cases h

theorem checkKey_run {kt : TypeId} {kd : TypeDesc} (hk : P.underlying kt = some kd) {str : Bool} (hkd : (str = false ∧ ∃ k, kd = .int k) ∨ (str = true ∧ kd = .string))
    {v : Value} (e : Bool) (n : Nat) (w : World) : (Instr.checkKey e (n + 1) kt v).run P w = .ok () w := by
  rcases hkd with ⟨_, k, rfl⟩ | ⟨_, rfl⟩ <;> cases v <;> simp [Instr.checkKey, und_run hk]

/-- Entries of a map of the model. -/
def EntsRel (γ : Pl) (es : List (Value × AVal)) (ents : List MapEntry) : Prop :=
  es.length = ents.length ∧ ∀ (i : Nat) (k : Value) (v : AVal), es[i]? = some (k, v) → ∃ en, ents[i]? = some en ∧ en.key = k ∧ rel γ v en.val

theorem entsRel_cons {γ : Pl} {x : Value × AVal} {es : List (Value × AVal)} {en : MapEntry} {ents : List MapEntry} (h : EntsRel γ (x :: es) (en :: ents)) :
    en.key = x.1 ∧ rel γ x.2 en.val ∧ EntsRel γ es ents := by
  obtain ⟨h1, h2⟩ := h
  obtain ⟨e0, g1, g2, g3⟩ := h2 0 x.1 x.2 rfl
  simp at g1
  subst g1
  exact ⟨g2, g3, by simpa using h1, fun i k v hi => by simpa using h2 (i + 1) k v (by simpa using hi)⟩

theorem findNow_run {γ : Pl} {kd : TypeDesc} {str : Bool} (hkd : (str = false ∧ ∃ k, kd = .int k) ∨ (str = true ∧ kd = .string)) {k : Value}
    (hk : (str = false ∧ ∃ i n, k = .int i n) ∨ (str = true ∧ ∃ s, k = .string s)) :
    ∀ (es : List (Value × AVal)) (ents : List MapEntry) (i : Nat) (r : Option (Nat × AVal)), EntsRel γ es ents → findKey k es i = some r →
      ∃ r', Instr.findNow kd k ents i = some r' ∧ (match r, r' with
        | none, none => True
        | some (j, v), some (j', v') => j = j' ∧ rel γ v v' ∧ i ≤ j ∧ (∃ kk, es[j - i]? = some (kk, v) ∧ kk = k)
        | _, _ => False)
  | [], [], i, r, _, h => by
    simp [findKey] at h
    subst h
    exact ⟨none, rfl, trivial⟩
  | x :: es, en :: ents, i, r, hr, h => by
    obtain ⟨h1, h2, h3⟩ := entsRel_cons hr
    have hsame : ∀ b, keyEq k x.1 = some b → Instr.sameNow kd k en.key = some b ∧ (b = true → x.1 = k) := by
      intro b hb
      rw [h1]
      rcases hkd with ⟨hs, kk, rfl⟩ | ⟨hs, rfl⟩
      · rcases hk with ⟨_, i, n, rfl⟩ | ⟨hs', _⟩
        · cases hx : x.1 <;> rw [hx] at hb <;> simp [keyEq] at hb
          obtain ⟨rfl, hb⟩ := hb
          exact ⟨by simp [Instr.sameNow, hb], fun e => by subst e; simp at hb; rw [hb]⟩
        · rw [hs] at hs'; cases hs'
      · rcases hk with ⟨hs', _⟩ | ⟨_, s, rfl⟩
        · rw [hs] at hs'; cases hs'
        · cases hx : x.1 <;> rw [hx] at hb <;> simp [keyEq] at hb
          rename_i s'
          refine ⟨by simp [Instr.sameNow, hb], fun e => ?_⟩
          subst e
          rw [beq_toListBytes, ByteArray.toList_eq, ByteArray.toList_eq] at hb
          have : s = s' := by
            obtain ⟨⟨a⟩⟩ := s
            obtain ⟨⟨b⟩⟩ := s'
            simp at hb
            subst hb
            rfl
          rw [this]
    simp only [findKey] at h
    split at h
    · rename_i hb
      simp at h
      subst h
      obtain ⟨g, g'⟩ := hsame true hb
      refine ⟨some (i, en.val), by simp [Instr.findNow, g], rfl, h2, Nat.le_refl _, x.1, by simp, g' rfl⟩
    · rename_i hb
      obtain ⟨g, _⟩ := hsame false hb
      obtain ⟨r', e1, e2⟩ := findNow_run hkd hk es ents (i + 1) r h3 h
      refine ⟨r', by simp [Instr.findNow, g, e1], ?_⟩
      cases r with
      | none => cases r' <;> simp at e2 ⊢
      | some p =>
        cases r' with
        | none => simp at e2
        | some p' =>
          obtain ⟨j, v⟩ := p
          obtain ⟨j', v'⟩ := p'
          obtain ⟨a1, a2, a3, kk, a4, a5⟩ := e2
          refine ⟨a1, a2, by omega, kk, ?_, a5⟩
          rw [show j - i = (j - (i + 1)) + 1 by omega]
          simpa using a4
    · cases h
  | [], _ :: _, _, _, hr, _ => by have := hr.1; simp at this
  | _ :: _, [], _, _, hr, _ => by have := hr.1; simp at this

/-- The entries of a live map. -/
theorem map_live {γ : Pl} {H : AHeap} {w : World} (hw : Rw γ H w) {b c s z : Nat} {es : List (Value × AVal)} (hb : γ b = some (c, s, z)) (hl : H.get b = some (.map es)) :
    ∃ ents clock, w.heap[c]? = some (.map ents clock) ∧ EntsRel γ es ents.toList ∧ (∀ (i : Nat) (en : MapEntry), ents[i]? = some en → en.born < clock) ∧
      (∀ (i j : Nat) (en em : MapEntry), i < j → ents[i]? = some en → ents[j]? = some em → en.born < em.born) := by
  obtain ⟨ob, h1, ents, clock, rfl, h2, h3, h4, h5⟩ := hw.live b c s z _ hb hl
  exact ⟨ents, clock, h1, ⟨by simpa using h2, by simpa using h3⟩, h4, h5⟩

theorem getObj_map {w : World} {c clock : Nat} {ents : Array MapEntry} (h : w.heap[c]? = some (.map ents clock)) : (getObj c).run P w = .ok (.map ents clock) w := by
  simp [getObj, Sem.run, h]

theorem lookup_model {w : World} {t kt et : TypeId} {kd : TypeDesc} {z : Value} (hd : P.underlying t = some (.map kt et)) (hkd : P.underlying kt = some kd) {str : Bool}
    (hkind : (str = false ∧ ∃ k, kd = .int k) ∨ (str = true ∧ kd = .string)) (hz : zero? P et = some z) {m' k' : Value} {ents : Array MapEntry}
    (hm : (m' = .map none ∧ ents = #[]) ∨ ∃ c clock, m' = .map (some c) ∧ w.heap[c]? = some (.map ents clock)) {r' : Option (Nat × Value)}
    (hf : (Instr.findKey kt k' ents.toList).run P w = .ok r' w) (ok : Bool) :
    (Instr.lookup t m' k' ok).run P w = .ok (match r' with
      | some (_, v) => if ok then .tuple #[v, .bool true] else v
      | none => if ok then .tuple #[z, .bool false] else z) w := by
  rcases hm with ⟨rfl, rfl⟩ | ⟨c, clock, rfl, hc⟩
  · have hf' : (Instr.findKey kt k' []).run P w = .ok r' w := hf
    cases r' with
    | none => simp [Instr.lookup, und_run hd, checkKey_run (P := P) hkd hkind, hf', zero_run hz]
    | some p => simp [Instr.lookup, und_run hd, checkKey_run (P := P) hkd hkind, hf']
  · cases r' with
    | none => simp [Instr.lookup, und_run hd, getObj_map (P := P) hc, checkKey_run (P := P) hkd hkind, hf, zero_run hz]
    | some p => simp [Instr.lookup, und_run hd, getObj_map (P := P) hc, checkKey_run (P := P) hkd hkind, hf]

theorem entries_run {γ : Pl} {H : AHeap} {w : World} (hw : Rw γ H w) {m : AVal} {m' : Value} (hm : rel γ m m') {es : List (Value × AVal)} (hes : entriesOf m H = some es) :
    ∃ ents : Array MapEntry, EntsRel γ es ents.toList ∧ ((m' = .map none ∧ ents = #[]) ∨ ∃ c clock, m' = .map (some c) ∧ w.heap[c]? = some (.map ents clock)) := by
  unfold entriesOf at hes
  split at hes
  · cases hes
    rw [rel_prim] at hm
    subst hm
    exact ⟨#[], ⟨rfl, fun i k v h => by simp at h⟩, .inl ⟨rfl, rfl⟩⟩
  · rename_i r
    obtain ⟨c, s, zz, e, rfl⟩ := (by simpa only [rel] using hm)
    split at hes <;> simp at hes
    rename_i es' hg
    subst hes
    obtain ⟨ents, clock, g1, g2, _⟩ := map_live hw e hg
    exact ⟨ents, g2, .inr ⟨c, clock, rfl, g1⟩⟩
  · cases hes

theorem find_run {γ : Pl} {w : World} {kt : TypeId} {kd : TypeDesc} (hkd : P.underlying kt = some kd) {str : Bool}
    (hkind : (str = false ∧ ∃ k, kd = .int k) ∨ (str = true ∧ kd = .string)) {k : Value} (hkv : (str = false ∧ ∃ i n, k = .int i n) ∨ (str = true ∧ ∃ s, k = .string s))
    {es : List (Value × AVal)} {ents : Array MapEntry} (hents : EntsRel γ es ents.toList) {r : Option (Nat × AVal)} (hr : findKey k es 0 = some r) :
    ∃ r', (Instr.findKey kt k ents.toList).run P w = .ok r' w ∧ (match r, r' with
        | none, none => True
        | some (j, v), some (j', v') => j = j' ∧ rel γ v v' ∧ ∃ kk, es[j]? = some (kk, v) ∧ kk = k
        | _, _ => False) := by
  obtain ⟨r', e1, e2⟩ := findNow_run hkind hkv es ents.toList 0 r hents hr
  refine ⟨r', by simp [Instr.findKey, und_run hkd, e1], ?_⟩
  cases r with
  | none => cases r' <;> simp at e2 ⊢
  | some p =>
    cases r' with
    | none => simp at e2
    | some p' => exact ⟨e2.1, e2.2.1, e2.2.2.2⟩

theorem alookup_run {γ : Pl} {H : AHeap} {w : World} (hw : Rw γ H w) {t : TypeId} {str : Bool} {z : Value} (ht : mapT P t = some (str, some z)) {m k : AVal} {m' k' : Value}
    (hm : rel γ m m') (hk : rel γ k k') {ok : Bool} {v : AVal} (h : alookup str z m k ok H = some v) : ∃ v', (Instr.lookup t m' k' ok).run P w = .ok v' w ∧ rel γ v v' := by
  obtain ⟨kt, et, kd, hd, hkd, hz, hkind⟩ := mapT_spec ht
  have hz := hz.symm
  unfold alookup at h
  split at h
  · rename_i kv es hfit hes
    obtain ⟨rfl, hkv⟩ := keyFits_spec hfit
    rw [rel_prim] at hk
    subst hk
    obtain ⟨ents, hents, hmm⟩ := entries_run hw hm hes
    split at h
    · rename_i j v0 hf
      obtain ⟨r', e1, e2⟩ := find_run (P := P) (w := w) hkd hkind hkv hents hf
      cases r' with
      | none => simp at e2
      | some p =>
        obtain ⟨j', v0'⟩ := p
        refine ⟨_, lookup_model hd hkd hkind hz hmm e1 ok, ?_⟩
        cases ok <;> simp at h <;> subst h
        · simpa using e2.2.1
        · simp only [if_true, rel]
          exact ⟨_, rfl, e2.2.1, by simp [abool, rel_prim], trivial⟩
    · rename_i hf
      obtain ⟨r', e1, e2⟩ := find_run (P := P) (w := w) hkd hkind hkv hents hf
      cases r' with
      | some p => simp at e2
      | none =>
        refine ⟨_, lookup_model hd hkd hkind hz hmm e1 ok, ?_⟩
        cases ok <;> simp at h <;> subst h
        · simp [rel_prim]
        · simp only [if_true, rel]
          exact ⟨_, rfl, rfl, rfl, trivial⟩
    · cases h
  · cases h

/-! ### Slices as a whole -/

theorem sliceCells_run {γ : Pl} {H : AHeap} {w : World} (hw : Rw γ H w) {x : AVal} {x' : Value} (hx : rel γ x x') {size : Nat} {l : List AVal} (h : sliceCells x size H = some l) :
    ∃ n k, (∃ a, x' = .slice a n k ∧ (a = none → n = 0)) ∧ (∀ m, m ≤ n → ∃ r, (Builtin.firstCells size m x').run P w = .ok r w ∧ rels γ (l.take (m * size)) r.toList) ∧ l.length = n * size ∧
      (∀ b o n' st cap, x = .slice b o n' st cap → n = n') := by
  unfold sliceCells at h
  split at h
  · rename_i b off len st cap
    split at h
    · rename_i cells hg
      split at h <;> simp at h
      rename_i hle
      obtain ⟨rfl, hle⟩ := hle
      subst h
      obtain ⟨c, s, z, a, k, e, rfl, hlk, hck, hak, hz⟩ := (by simpa only [rel] using hx)
      obtain ⟨cs, e', lo, hi, h1, h2, h3, h4, h5⟩ := cells_live hw e hg
      refine ⟨len, k, ⟨_, rfl, by simp⟩, fun m hm => ?_, by simp; omega, fun b o n' st cap he => by cases he; rfl⟩
      by_cases hk : k = 0
      · have : m = 0 := by omega
        subst this
        exact ⟨#[], by simp [Builtin.firstCells, loadCells, loadCellsFrom], by simp [rels]⟩
      · have ha : a = s + off := hak.resolve_left hk
        subst ha
        have hms : m * st ≤ len * st := Nat.mul_le_mul_right _ hm
        obtain ⟨r, g1, g2⟩ := load_run (P := P) (w := w) (o := s + off) (n := m * st) h1 (by omega)
        refine ⟨r, by simp [Builtin.firstCells, g1], ?_⟩
        rw [g2, List.take_take, Nat.min_eq_left hms]
        exact stretch h4 off (m * st) (by omega)
    · cases h
  · cases h
    rw [rel_prim] at hx
    subst hx
    refine ⟨0, 0, ⟨none, rfl, fun _ => rfl⟩, fun m hm => ⟨#[], ?_, by simp [rels]⟩, by simp, fun b o n' st cap he => by cases he⟩
    simp [Builtin.firstCells]
  · cases h

theorem andThen_self {α : Type} (r : Result α) : (r.andThen fun a w => .ok a w) = r := by cases r <;> rfl

theorem bytes_loop {γ : Pl} : ∀ (l : List AVal) (cs : List Value) (b : List UInt8) (acc : ByteArray) (w : World), rels γ l cs → bytesOf l = some b →
    (do
      let mut s := acc
      for c in cs do
        let .int .u8 n := c | stuck "bytesToString: byte expected"
        s := s.push (UInt8.ofNat n.toNat)
      pure s : Sem ByteArray).run P w = .ok ⟨(acc.data.toList ++ b).toArray⟩ w
  | [], [], b, acc, w, _, h => by
    simp [bytesOf] at h
    subst h
    simp
  | x :: l, y :: l', b, acc, w, hr, h => by
    simp only [rels] at hr
    unfold bytesOf at h
    split at h
    · rename_i heq; cases heq
    · rename_i n rest heq
      cases heq
      split at h <;> simp at h
      rename_i b' hb'
      subst h
      have hy := hr.1
      rw [rel_prim] at hy
      subst hy
      have ih := bytes_loop l l' b' (acc.push (UInt8.ofNat n.toNat)) w hr.2 hb'
      simp only [List.forIn_cons, Sem.run_bind, Sem.run_pure, Result.andThen_ok] at ih ⊢
      rw [ih]
      congr 2
      simp [ByteArray.push]
    · cases h
  | [], _ :: _, _, _, _, hr, _ => by simp [rels] at hr
  | _ :: _, [], _, _, _, hr, _ => by simp [rels] at hr

theorem toStr_run {γ : Pl} {H : AHeap} {w : World} (hw : Rw γ H w) {src dst e : TypeId} (hs : P.underlying src = some (.slice e)) (hd : P.underlying dst = some .string)
    (he : P.underlying e = some (.int .u8)) {x : AVal} {x' : Value} (hx : rel γ x x') {v : AVal} (h : toStr x H = some v) :
    ∃ v', (convert src dst x').run P w = .ok v' w ∧ rel γ v v' := by
  unfold toStr at h
  split at h
  · rename_i l hl
    cases hb : bytesOf l with
    | none => rw [hb] at h; cases h
    | some b =>
      rw [hb] at h
      simp at h
      subst h
      obtain ⟨n, k, ⟨a, rfl, ha⟩, hf, hlen, _⟩ := sliceCells_run (P := P) hw hx hl
      obtain ⟨r, g1, g2⟩ := hf n (Nat.le_refl _)
      rw [List.take_of_length_le (by omega)] at g2
      refine ⟨.string ⟨b.toArray⟩, ?_, by rw [rel_prim]⟩
      cases a with
      | none =>
        have := ha rfl
        subst this
        have hr0 : l = [] := List.length_eq_zero_iff.1 (by simpa using hlen)
        subst hr0
        simp [bytesOf] at hb
        subst hb
        simp [convert, und_run hs, und_run hd, und_run he, Conv.bytesToString]
        rfl
      | some a =>
        have g1' : (loadCells a n).run P w = .ok r w := by simpa [Builtin.firstCells] using g1
        have loop := bytes_loop (P := P) l r.toList b .empty w g2 hb
        simp only [convert, Sem.run_bind, und_run hs, und_run hd, und_run he, Result.andThen_ok, Conv.bytesToString, g1']
        simp only [Sem.run_bind] at loop
        rw [← Array.forIn_toList]
        simp only [Sem.run_pure, andThen_self] at loop
        exact (congrArg (fun r : Result ByteArray => r.andThen fun a w' => Sem.run P (pure (Value.string a)) w') loop).trans (by simp)
  · cases h

theorem alenMap_run {γ : Pl} {H : AHeap} {w : World} (hw : Rw γ H w) {t : TypeId} {kt et : TypeId} (hd : P.underlying t = some (.map kt et)) {x : AVal} {x' : Value} (hx : rel γ x x')
    {v : AVal} (h : alenMap x H = some v) (ty : TypeId) : ∃ v', (Builtin.len_ #[t] ty #[x']).run P w = .ok v' w ∧ rel γ v v' := by
  unfold alenMap at h
  cases hes : entriesOf x H with
  | none => rw [hes] at h; cases h
  | some es =>
    rw [hes] at h
    simp at h
    subst h
    obtain ⟨ents, hents, hm⟩ := entries_run hw hx hes
    have hl := hents.1
    rcases hm with ⟨rfl, rfl⟩ | ⟨c, clock, rfl, hc⟩
    · simp at hl
      exact ⟨.int .i64 0, by simp [Builtin.len_, und_run hd, goInt], by simp [int, rel_prim, hl]⟩
    · refine ⟨.int .i64 ents.size, by simp [Builtin.len_, und_run hd, getObj_map (P := P) hc, goInt], ?_⟩
      simp at hl
      simp [int, rel_prim, hl]
end
end Go.AM
