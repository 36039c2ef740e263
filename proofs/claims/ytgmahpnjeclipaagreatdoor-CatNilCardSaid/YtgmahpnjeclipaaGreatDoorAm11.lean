/- Operations that change memory, first part: stores and maps. No condition. -/
import Derived.Test.YtgmahpnjeclipaaGreatDoorAm10
namespace Go.AM
section
variable {P : Program}

theorem setObj_self {w : World} {c : Nat} {ob : Obj} (h : w.heap[c]? = some ob) : w.setObj c ob = w := by
  have hc : c < w.heap.size := by
    rcases Nat.lt_or_ge c w.heap.size with h' | h'
    · exact h'
    · rw [Array.getElem?_eq_none h'] at h; cases h
  show ({ w with heap := w.heap.setIfInBounds c ob } : World) = w
  have : w.heap.setIfInBounds c ob = w.heap := by
    apply Array.ext_getElem?
    intro i
    rw [Array.getElem?_setIfInBounds]
    by_cases hi : c = i
    · subst hi; rw [if_pos rfl, if_pos hc, h]
    · rw [if_neg hi]
  rw [this]

theorem setObj_setObj (w : World) (c : Nat) (a b : Obj) : (w.setObj c a).setObj c b = w.setObj c b := by
  show ({ w with heap := (w.heap.setIfInBounds c a).setIfInBounds c b } : World) = { w with heap := w.heap.setIfInBounds c b }
  congr 1
  apply Array.ext_getElem?
  intro i
  simp only [Array.getElem?_setIfInBounds, Array.size_setIfInBounds]
  by_cases hi : c = i
  · simp [hi]
  · simp [hi]

theorem setCell_setObj {w : World} {c o : Nat} {cs : Array Value} {e : TypeId} {fr : Nat × Nat} (h : w.heap[c]? = some (.cells cs e fr)) (v : Value) :
    w.setCell ⟨c, o, none⟩ v = w.setObj c (.cells (cs.setIfInBounds o v) e fr) := by
  have hc : c < w.heap.size := by
    rcases Nat.lt_or_ge c w.heap.size with h' | h'
    · exact h'
    · rw [Array.getElem?_eq_none h'] at h; cases h
  show ({ w with heap := w.heap.modify c _ } : World) = { w with heap := w.heap.setIfInBounds c _ }
  congr 1
  apply Array.ext_getElem?
  intro i
  rw [Array.getElem?_modify, Array.getElem?_setIfInBounds]
  by_cases hi : c = i
  · subst hi
    obtain ⟨lo, hi⟩ := fr
    rw [if_pos rfl, if_pos rfl, if_pos hc, h]
    simp
  · simp [hi]

theorem frozen_none {w : World} {c o : Nat} {cs : Array Value} {e : TypeId} {lo hi : Nat} (h : w.heap[c]? = some (.cells cs e (lo, hi))) (hf : lo = hi ∨ cs.size ≤ lo) (ho : o < cs.size) :
    w.frozen? ⟨c, o, none⟩ = false := by
  simp only [World.frozen?, h]
  rcases hf with rfl | hf
  · simp
  · simp; omega

theorem store_run {e : TypeId} {lo hi c : Nat} : ∀ (vs : List Value) (o i : Nat) (w : World) (cs : Array Value), w.heap[c]? = some (.cells cs e (lo, hi)) → (lo = hi ∨ cs.size ≤ lo) →
    (∀ v ∈ vs, Value.oneCell' v = true) → o + i + vs.length ≤ cs.size →
    ∃ cs' : Array Value, (storeCells ⟨c, o, none⟩ vs i).run P w = .ok () (w.setObj c (.cells cs' e (lo, hi))) ∧ cs'.toList = cs.toList.take (o + i) ++ (vs ++ cs.toList.drop (o + i + vs.length))
  | [], o, i, w, cs, h, _, _, _ => ⟨cs, by simp [storeCells, setObj_self h], by simp⟩
  | v :: vs, o, i, w, cs, h, hf, hv, hle => by
    simp only [List.length_cons] at hle
    have hlt : o + i < cs.size := by omega
    have hc : c < w.heap.size := by
      rcases Nat.lt_or_ge c w.heap.size with h' | h'
      · exact h'
      · rw [Array.getElem?_eq_none h'] at h; cases h
    have h1 : (w.setCell ⟨c, o + i, none⟩ v).heap[c]? = some (.cells (cs.setIfInBounds (o + i) v) e (lo, hi)) := by
      rw [setCell_setObj h, setObj_get, if_pos ⟨rfl, hc⟩]
    obtain ⟨cs', g1, g2⟩ := store_run vs o (i + 1) _ _ h1 (by simpa using hf) (fun u hu => hv u (List.mem_cons_of_mem _ hu)) (by simp; omega)
    refine ⟨cs', ?_, ?_⟩
    · simp only [storeCells, Sem.run_bind, addr_add]
      rw [run_store P w _ v .plain (hv v (List.mem_cons_self ..))]
      simp only [cell_of h, Array.getElem?_eq_getElem hlt, frozen_none h hf hlt, Bool.false_eq_true, if_false, Result.andThen_ok]
      rw [g1, setCell_setObj h, setObj_setObj]
    · rw [g2]
      have hj : o + i < cs.toList.length := by simpa using hlt
      simp only [Array.toList_setIfInBounds]
      rw [show o + (i + 1) = (o + i) + 1 by omega, List.take_add_one, List.length_cons, List.getElem?_set_self hj, List.take_set_of_le (Nat.le_refl _), List.drop_set_of_lt (by omega)]
      simp
      omega

theorem splice_rel {γ : Pl} {l cs : List AVal} {L vs : List Value} {s o : Nat} (hr : rels γ l ((L.drop s).take l.length)) (hc : rels γ cs vs) (ho : o + cs.length ≤ l.length)
    (hL : s + l.length ≤ L.length) :
    rels γ (l.take o ++ (cs ++ l.drop (o + cs.length))) (((L.take (s + o) ++ (vs ++ L.drop (s + o + vs.length))).drop s).take (l.take o ++ (cs ++ l.drop (o + cs.length))).length) := by
  have hlen := rels_length hc
  have e1 : (l.take o ++ (cs ++ l.drop (o + cs.length))).length = l.length := by simp; omega
  rw [e1, List.drop_append_of_le_length (by simp; omega), List.drop_take, Nat.add_sub_cancel_left, List.take_append, List.take_append]
  have e2 : ((L.drop s).take o).take l.length = (L.drop s).take o := List.take_of_length_le (by simp; omega)
  have e3 : vs.take (l.length - ((L.drop s).take o).length) = vs := List.take_of_length_le (by simp; omega)
  rw [e2, e3]
  have h1 := rels_take o hr
  rw [List.take_take, Nat.min_eq_left (by omega)] at h1
  have h2 := rels_drop (o + cs.length) hr
  rw [List.drop_take, List.drop_drop] at h2
  refine rels_append h1 (rels_append hc ?_)
  have e4 : l.length - ((L.drop s).take o).length - vs.length = l.length - (o + cs.length) := by simp; omega
  rw [e4, ← hlen, Nat.add_assoc]
  exact h2

theorem all_one {γ : Pl} : ∀ {cs : List AVal} {vs : List Value}, rels γ cs vs → cs.all AVal.one = true → ∀ v ∈ vs, Value.oneCell' v = true
  | [], [], _, _, v, h => by cases h
  | x :: l, y :: l', r, h, v, hv => by
    simp only [rels] at r
    simp only [List.all_cons, Bool.and_eq_true] at h
    rcases List.mem_cons.1 hv with rfl | hv
    · exact rel_one r.1 h.1
    · exact all_one r.2 h.2 v hv
  | [], _ :: _, r, _, _, _ => by simp [rels] at r
  | _ :: _, [], r, _, _, _ => by simp [rels] at r

/-- Cells are laid into a row: in both. -/
theorem lay_run {γ : Pl} {H : AHeap} {w : World} (hw : Rw γ H w) {b c s z off : Nat} (hb : γ b = some (c, s, z)) {cs : List AVal} {vs : List Value} (hv : rels γ cs vs) {H' : AHeap}
    (h : layCells H b off cs = some H') : ∃ w', (storeCells ⟨c, s + off, none⟩ vs).run P w = .ok () w' ∧ Rw γ H' w' ∧ Stp γ γ H H' w w' := by
  unfold layCells at h
  split at h
  · rename_i l hl
    split at h <;> simp at h
    rename_i hcond
    obtain ⟨hle, hone⟩ := hcond
    subst h
    obtain ⟨cc, e, lo, hi, h1, h2, h3, h4, h5⟩ := cells_live hw hb hl
    have hlen := rels_length hv
    obtain ⟨cs', g1, g2⟩ := store_run (P := P) vs (s + off) 0 w cc h1 (by rw [h2]; exact h5) (all_one hv hone) (by omega)
    have hsz : cs'.size = z := by
      have := congrArg List.length g2
      simp at this
      omega
    have hobj : objRel γ (.cells (l.take off ++ (cs ++ l.drop (off + cs.length)))) s z (.cells cs' e (lo, hi)) := by
      refine ⟨cs', e, lo, hi, rfl, hsz, by simp; omega, ?_, h5⟩
      rw [g2, Nat.add_zero]
      exact splice_rel h4 hv hle (by simp; omega)
    obtain ⟨r1, r2⟩ := hw.set hb hl hobj
    exact ⟨_, g1, r1, r2⟩
  · cases h

/-- What changing leaves. -/
def Changes (P : Program) (γ : Pl) (H H' : AHeap) (v : AVal) (s : Sem Next) (w : World) : Prop :=
  ∃ r v' w' γ', s.run P w = .ok r w' ∧ (r = .value v' ∨ (r = .skip ∧ v' = undef)) ∧ rel γ' v v' ∧ Rw γ' H' w' ∧ Stp γ γ' H H' w w'

theorem changes_u {γ : Pl} {H H' : AHeap} {s : Sem Unit} {w : World} (h : ∃ w', s.run P w = .ok () w' ∧ Rw γ H' w' ∧ Stp γ γ H H' w w') :
    Changes P γ H H' unit (do s; pure .skip) w := by
  obtain ⟨w', e, r1, r2⟩ := h
  exact ⟨.skip, undef, w', γ, by simp [e], .inr ⟨rfl, rfl⟩, by simp [unit, rel_prim], r1, r2⟩

theorem astore_run {γ : Pl} {H : AHeap} {w : World} (hw : Rw γ H w) {t : TypeId} {n : Nat} (hn : size? P t = some n) {x v : AVal} {x' v' : Value} (hx : rel γ x x') (hv : rel γ v v')
    {H' : AHeap} (h : astore n x v H = some H') : ∃ w', (Instr.storeAt t x' v').run P w = .ok () w' ∧ Rw γ H' w' ∧ Stp γ γ H H' w w' := by
  unfold astore at h
  split at h
  · rename_i b off
    split at h <;> try (cases h; done)
    rename_i hlen
    obtain ⟨c, s, z, e, rfl⟩ := (by simpa only [rel] using hx)
    have hc := rel_cells hv
    have hl := rels_length hc
    obtain ⟨w', g1, g2, g3⟩ := lay_run (P := P) hw e hc h
    have hsz : v'.cells.size = n := by simp at hl; omega
    exact ⟨w', by simp [Instr.storeAt, Instr.sureAddr, storeVar, size_run hn, hsz, g1], g2, g3⟩
  · cases h

theorem sameBits_self {k : Value} (hk : (∃ i n, k = .int i n) ∨ ∃ s, k = .string s) : Instr.sameBits 10000 k k = true := by
  rcases hk with ⟨i, n, rfl⟩ | ⟨s, rfl⟩
  · simp [Instr.sameBits]
  · simp only [Instr.sameBits]
    rw [beq_toListBytes]
    simp

theorem kv_or {str : Bool} {k : Value} (hkv : (str = false ∧ ∃ i n, k = .int i n) ∨ (str = true ∧ ∃ s, k = .string s)) : (∃ i n, k = .int i n) ∨ ∃ s, k = .string s := by
  rcases hkv with ⟨_, h⟩ | ⟨_, h⟩
  · exact .inl h
  · exact .inr h

theorem setObj_run {w : World} {c clock : Nat} {ents : Array MapEntry} (h : w.heap[c]? = some (.map ents clock)) (o : Obj) : (setObj c o).run P w = .ok () (w.setObj c o) := by
  simp [Go.setObj, Sem.run, h, World.setObj]

theorem amapUpdate_run {γ : Pl} {H : AHeap} {w : World} (hw : Rw γ H w) {t : TypeId} {str : Bool} {z : Option Value} (ht : mapT P t = some (str, z)) {m k v : AVal} {m' k' v' : Value}
    (hm : rel γ m m') (hk : rel γ k k') (hv : rel γ v v') {H' : AHeap} (h : amapUpdate str m k v H = some H') :
    ∃ w', (Instr.mapUpdate t m' k' v').run P w = .ok () w' ∧ Rw γ H' w' ∧ Stp γ γ H H' w w' := by
  obtain ⟨kt, et, kd, hd, hkd, _, hkind⟩ := mapT_spec ht
  unfold amapUpdate at h
  split at h
  · rename_i kv r hfit
    obtain ⟨rfl, hkv⟩ := keyFits_spec hfit
    rw [rel_prim] at hk
    subst hk
    obtain ⟨c, s, zz, e, rfl⟩ := (by simpa only [rel] using hm)
    split at h
    · rename_i es hg
      obtain ⟨ob, h1, ents, clock, rfl, h2, h3, h4, h5⟩ := hw.live _ _ _ _ _ e hg
      have hents : EntsRel γ es ents.toList := ⟨by simpa using h2, by simpa using h3⟩
      split at h
      · rename_i i v0 hf
        simp at h
        subst h
        obtain ⟨r', e1, e2⟩ := find_run (P := P) (w := w) hkd hkind hkv hents hf
        cases r' with
        | none => simp at e2
        | some p =>
          obtain ⟨j, v0'⟩ := p
          obtain ⟨rfl, _, kk, hi, rfl⟩ := e2
          obtain ⟨en, g1, g2, g3⟩ := h3 i kk v0 hi
          have hobj : objRel γ (.map (es.set i (kk, v))) s zz (.map (ents.modify i fun x => { x with key := kk, val := v' }) clock) := by
            refine ⟨_, clock, rfl, by simp [h2], fun j k2 v2 hj => ?_, fun j en' hj => ?_, fun j1 j2 en1 en2 hlt hj1 hj2 => ?_⟩
            · rw [List.getElem?_set] at hj
              by_cases hij : i = j
              · subst hij
                rw [if_pos rfl] at hj
                split at hj <;> simp at hj
                obtain ⟨rfl, rfl⟩ := hj
                exact ⟨{ en with key := kk, val := v' }, by simp [Array.getElem?_modify, g1], rfl, hv⟩
              · rw [if_neg hij] at hj
                obtain ⟨en', q1, q2, q3⟩ := h3 j k2 v2 hj
                exact ⟨en', by simp [Array.getElem?_modify, hij, q1], q2, q3⟩
            · rw [Array.getElem?_modify] at hj
              by_cases hij : i = j
              · subst hij
                rw [if_pos rfl, g1] at hj
                simp at hj
                subst hj
                exact h4 i en g1
              · rw [if_neg hij] at hj
                exact h4 j en' hj
            · have born : ∀ (j : Nat) (en' : MapEntry), (ents.modify i fun x => { x with key := kk, val := v' })[j]? = some en' → ∃ en0 : MapEntry, ents[j]? = some en0 ∧ en0.born = en'.born := by
                intro j en' hj
                rw [Array.getElem?_modify] at hj
                by_cases hij : i = j
                · subst hij
                  rw [if_pos rfl, g1] at hj
                  simp at hj
                  subst hj
                  exact ⟨en, g1, rfl⟩
                · rw [if_neg hij] at hj
                  exact ⟨en', hj, rfl⟩
              obtain ⟨a1, q1, q2⟩ := born _ _ hj1
              obtain ⟨a2, q3, q4⟩ := born _ _ hj2
              rw [← q2, ← q4]
              exact h5 j1 j2 a1 a2 hlt q1 q3
          obtain ⟨r1, r2⟩ := hw.set e hg hobj
          refine ⟨_, ?_, r1, r2⟩
          simp [Instr.mapUpdate, und_run hd, getObj_map (P := P) h1, checkKey_run (P := P) hkd hkind, e1, g1, Instr.keyThatStays, g2, sameBits_self (kv_or hkv), setObj_run (P := P) h1]
      · rename_i hf
        simp at h
        subst h
        obtain ⟨r', e1, e2⟩ := find_run (P := P) (w := w) hkd hkind hkv hents hf
        cases r' with
        | some p => simp at e2
        | none =>
          have hobj : objRel γ (.map (es ++ [(k', v)])) s zz (.map (ents.push { key := k', val := v', born := clock }) (clock + 1)) := by
            refine ⟨_, clock + 1, rfl, by simp [h2], fun j k2 v2 hj => ?_, fun j en' hj => ?_, fun j1 j2 en1 en2 hlt hj1 hj2 => ?_⟩
            · rw [List.getElem?_append] at hj
              split at hj
              · obtain ⟨en', q1, q2, q3⟩ := h3 j k2 v2 hj
                refine ⟨en', ?_, q2, q3⟩
                rw [Array.getElem?_push, if_neg (by omega), q1]
              · rename_i hj'
                have : j - es.length = 0 := by
                  rcases Nat.eq_zero_or_pos (j - es.length) with h0 | h0
                  · exact h0
                  · rw [List.getElem?_eq_none (by simp; omega)] at hj; cases hj
                rw [this] at hj
                simp at hj
                obtain ⟨rfl, rfl⟩ := hj
                have hje : j = ents.size := by omega
                exact ⟨_, by rw [Array.getElem?_push, if_pos hje], rfl, hv⟩
            · rw [Array.getElem?_push] at hj
              split at hj
              · simp at hj; subst hj; simp
              · exact Nat.lt_succ_of_lt (h4 j en' hj)
            · rw [Array.getElem?_push] at hj1 hj2
              have hj1lt : j1 < ents.size := by
                split at hj1
                · rename_i hh
                  split at hj2
                  · omega
                  · rw [Array.getElem?_eq_none (by omega)] at hj2; cases hj2
                · rcases Nat.lt_or_ge j1 ents.size with h' | h'
                  · exact h'
                  · rw [Array.getElem?_eq_none h'] at hj1; cases hj1
              rw [if_neg (by omega)] at hj1
              split at hj2
              · simp at hj2; subst hj2; exact h4 j1 en1 hj1
              · exact h5 j1 j2 en1 en2 hlt hj1 hj2
          obtain ⟨r1, r2⟩ := hw.set e hg hobj
          refine ⟨_, ?_, r1, r2⟩
          simp [Instr.mapUpdate, und_run hd, getObj_map (P := P) h1, checkKey_run (P := P) hkd hkind, e1, setObj_run (P := P) h1]
      · cases h
    · cases h
  · cases h

theorem adelete_run {γ : Pl} {H : AHeap} {w : World} (hw : Rw γ H w) {t : TypeId} {str : Bool} {z : Option Value} (ht : mapT P t = some (str, z)) {m k : AVal} {m' k' : Value}
    (hm : rel γ m m') (hk : rel γ k k') {H' : AHeap} (h : adelete str m k H = some H') (tys : Array TypeId) (htys : tys[0]? = some t) (ty : TypeId) :
    ∃ w', (Builtin.delete_ tys ty #[m', k']).run P w = .ok (.tuple #[]) w' ∧ Rw γ H' w' ∧ Stp γ γ H H' w w' := by
  obtain ⟨kt, et, kd, hd, hkd, _, hkind⟩ := mapT_spec ht
  unfold adelete at h
  split at h
  · rename_i kv r hfit
    obtain ⟨rfl, hkv⟩ := keyFits_spec hfit
    rw [rel_prim] at hk
    subst hk
    obtain ⟨c, s, zz, e, rfl⟩ := (by simpa only [rel] using hm)
    split at h
    · rename_i es hg
      obtain ⟨ob, h1, ents, clock, rfl, h2, h3, h4, h5⟩ := hw.live _ _ _ _ _ e hg
      have hents : EntsRel γ es ents.toList := ⟨by simpa using h2, by simpa using h3⟩
      split at h
      · rename_i i v0 hf
        simp at h
        subst h
        obtain ⟨r', e1, e2⟩ := find_run (P := P) (w := w) hkd hkind hkv hents hf
        cases r' with
        | none => simp at e2
        | some p =>
          obtain ⟨j, v0'⟩ := p
          obtain ⟨rfl, _, kk, hi, rfl⟩ := e2
          have hlt : i < ents.size := by
            obtain ⟨en, g1, _⟩ := h3 i kk v0 hi
            rcases Nat.lt_or_ge i ents.size with h' | h'
            · exact h'
            · rw [Array.getElem?_eq_none h'] at g1; cases g1
          have hget : ∀ j, (ents.eraseIdxIfInBounds i)[j]? = if j < i then ents[j]? else ents[j + 1]? := by
            intro j
            rw [Array.eraseIdxIfInBounds, dif_pos hlt]
            rw [Array.getElem?_eraseIdx]
          have hobj : objRel γ (.map (es.eraseIdx i)) s zz (.map (ents.eraseIdxIfInBounds i) clock) := by
            refine ⟨_, clock, rfl, ?_, fun j k2 v2 hj => ?_, fun j en' hj => ?_, fun j1 j2 en1 en2 hl hj1 hj2 => ?_⟩
            · rw [List.length_eraseIdx, if_pos (by omega), Array.eraseIdxIfInBounds, dif_pos hlt, Array.size_eraseIdx, h2]
            · rw [List.getElem?_eraseIdx] at hj
              rw [hget]
              by_cases hji : j < i
              · rw [if_pos hji] at hj ⊢
                exact h3 j k2 v2 hj
              · rw [if_neg hji] at hj ⊢
                exact h3 (j + 1) k2 v2 hj
            · rw [hget] at hj
              split at hj
              · exact h4 _ _ hj
              · exact h4 _ _ hj
            · rw [hget] at hj1 hj2
              split at hj1 <;> split at hj2
              · exact h5 _ _ _ _ hl hj1 hj2
              · exact h5 _ _ _ _ (by omega) hj1 hj2
              · omega
              · exact h5 _ _ _ _ (by omega) hj1 hj2
          obtain ⟨r1, r2⟩ := hw.set e hg hobj
          refine ⟨_, ?_, r1, r2⟩
          simp [Builtin.delete_, htys, und_run hd, getObj_map (P := P) h1, checkKey_run (P := P) hkd hkind, e1, setObj_run (P := P) h1]
      · rename_i hf
        simp at h
        subst h
        obtain ⟨r', e1, e2⟩ := find_run (P := P) (w := w) hkd hkind hkv hents hf
        cases r' with
        | some p => simp at e2
        | none =>
          obtain ⟨r1, r2⟩ := hw.set e hg (show objRel γ (.map es) s zz (.map ents clock) from ⟨ents, clock, rfl, h2, h3, h4, h5⟩)
          refine ⟨_, ?_, r1, r2⟩
          simp [Builtin.delete_, htys, und_run hd, getObj_map (P := P) h1, checkKey_run (P := P) hkd hkind, e1, setObj_run (P := P) h1]
      · cases h
    · cases h
  · cases h

theorem aclearMap_run {γ : Pl} {H : AHeap} {w : World} (hw : Rw γ H w) {t kt et : TypeId} (hd : P.underlying t = some (.map kt et)) {x : AVal} {x' : Value} (hx : rel γ x x')
    {H' : AHeap} (h : aclearMap x H = some H') (ty : TypeId) : ∃ w', (Builtin.clear_ #[t] ty #[x']).run P w = .ok (.tuple #[]) w' ∧ Rw γ H' w' ∧ Stp γ γ H H' w w' := by
  unfold aclearMap at h
  split at h
  · rename_i r
    obtain ⟨c, s, zz, e, rfl⟩ := (by simpa only [rel] using hx)
    split at h <;> simp at h
    rename_i es hg
    subst h
    obtain ⟨ob, h1, ents, clock, rfl, h2, h3, h4, h5⟩ := hw.live _ _ _ _ _ e hg
    obtain ⟨r1, r2⟩ := hw.set e hg (show objRel γ (.map []) s zz (.map #[] clock) from
      ⟨#[], clock, rfl, rfl, fun i k v h => by simp at h, fun i en h => by simp at h, fun i j en em _ h => by simp at h⟩)
    refine ⟨_, ?_, r1, r2⟩
    simp [Builtin.clear_, und_run hd, getObj_map (P := P) h1, setObj_run (P := P) h1]
  · cases h
end
end Go.AM
