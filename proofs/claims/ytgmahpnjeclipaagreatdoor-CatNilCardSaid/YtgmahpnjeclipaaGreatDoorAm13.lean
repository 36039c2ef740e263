/- Operations that change memory, third part: append, copy, clear, iterators; all but calls. No condition. -/
import Derived.Test.YtgmahpnjeclipaaGreatDoorAm12
namespace Go.AM
section
variable {P : Program}

theorem extract_all (s : ByteArray) : (s.extract 0 s.size).data.toList = s.data.toList := by
  have : s.extract 0 s.size = s := by
    apply ByteArray.ext
    simp
  rw [this]

/-- What is appended, or copied, from: a text or a slice. -/
theorem src_run {γ : Pl} {H : AHeap} {w : World} (hw : Rw γ H w) {x : AVal} {x' : Value} (hx : rel γ x x') {size n : Nat} {new : List AVal} (h : copied size x H = some (new, n)) :
    (Builtin.lenOf x').run P w = .ok n w ∧ new.length = n * size ∧ (∀ m, m ≤ n → ∃ r, (Builtin.firstCells size m x').run P w = .ok r w ∧ rels γ (new.take (m * size)) r.toList) := by
  unfold copied at h
  split at h
  · rename_i s
    split at h <;> simp at h
    rename_i hs
    subst hs
    obtain ⟨rfl, rfl⟩ := h
    rw [rel_prim] at hx
    subst hx
    refine ⟨by simp [Builtin.lenOf], by simp [byteCells], fun m hm => ⟨(s.extract 0 m).data.map fun b => .int .u8 b.toNat, by simp [Builtin.firstCells], ?_⟩⟩
    have e : ((s.extract 0 m).data.map fun b => Value.int .u8 b.toNat).toList = (s.data.toList.map fun b => Value.int .u8 b.toNat).take (m * 1) := by
      simp [ByteArray.data_extract]
    rw [e]
    exact rels_take _ (rels_bytes γ s)
  · rename_i b off len st cap
    obtain ⟨l, hl, he⟩ := Option.map_eq_some_iff.1 h
    simp at he
    obtain ⟨rfl, rfl⟩ := he
    obtain ⟨n', k, ⟨a, rfl, ha⟩, hf, hlen, hn⟩ := sliceCells_run (P := P) hw hx hl
    obtain rfl := hn _ _ _ _ _ rfl
    exact ⟨by simp [Builtin.lenOf], hlen, hf⟩
  · simp at h
    obtain ⟨rfl, rfl⟩ := h
    rw [rel_prim] at hx
    subst hx
    exact ⟨by simp [Builtin.lenOf], by simp, fun m hm => ⟨#[], by simp [Builtin.firstCells], by simp [rels]⟩⟩
  · cases h

theorem appended_copied {size : Nat} {z : List AVal} {x : AVal} {H : AHeap} {r : List AVal × Nat} (h : appended size z false x H = some r) : copied size x H = some r := by
  unfold appended at h
  unfold copied
  exact h

/-- 'append' in the model, of what is appended. -/
theorem app_model {γ : Pl} {H : AHeap} {w : World} (hw : Rw γ H w) {t0 t1 e : TypeId} (ty : TypeId) {d1 : TypeDesc} {st by_ : Nat} {zv : Value} (h0 : P.underlying t0 = some (.slice e))
    (h1 : P.underlying t1 = some d1) (hs : size? P e = some st) (hz : zero? P e = some zv) (hb : bytes? P e = some by_) (hzl : zv.cells.size = st) (hby : 0 < by_) {zeros : Bool}
    (hzeros : (zeros = true ∧ ∃ q, d1 = .int q) ∨ (zeros = false ∧ ∀ q, d1 ≠ .int q)) {x : AVal} {x' : Value} (hx : rel γ x x') {new : List AVal} {n : Nat}
    (h : appended st (prims zv.cells.toList) zeros x H = some (new, n)) :
    ∃ src : Array Value, rels γ new src.toList ∧ new.length = n * st ∧
      (∀ base len k, (n = 0 ∨ appendFits by_ (len + n) = true) → len + n ≤ k → (Builtin.append_ #[t0, t1] ty #[.slice base len k, x']).run P w =
        ((match base with | some a => storeCells (a.add (len * st)) src.toList | none => pure () : Sem Unit).run P w).andThen fun _ w' => .ok (.slice base (len + n) k) w') ∧
      (∀ base len k old, (Builtin.firstCells st len (.slice base len k)).run P w.drew = .ok old w.drew → k < len + n → appendFits by_ (len + n) = true →
        ∃ m src2, rels γ new (Array.toList src2) ∧ (Builtin.append_ #[t0, t1] ty #[.slice base len k, x']).run P w =
          .ok (.slice (some ⟨w.heap.size, 0, none⟩) (len + n) (len + n + m)) (w.drew.alloc (.cells (old ++ src2 ++ Builtin.zeroCells zv.cells m) e))) := by
  have fits : ∀ l, appendFits by_ l = true → (2 * l + 1000) * by_ ≤ 2 ^ 47 ∧ l ≤ 2 ^ 40 := fun l hl => by simpa [appendFits] using hl
  rcases hzeros with ⟨rfl, q, rfl⟩ | ⟨rfl, hd⟩
  · unfold appended at h
    simp only at h
    split at h <;> try (cases h; done)
    rename_i i
    split at h <;> simp at h
    rename_i hi
    obtain ⟨rfl, rfl⟩ := h
    rw [rel_prim] at hx
    subst hx
    have e1 : i = ((i.toNat : Nat) : Int) := by omega
    have hsrc : rels γ (rep i.toNat (prims zv.cells.toList)) (if i.toNat * st = 0 then #[] else Builtin.zeroCells zv.cells i.toNat).toList := by
      have hr := rels_flatten_replicate (rels_prims γ zv.cells.toList) i.toNat
      by_cases h00 : i.toNat * st = 0
      · rw [if_pos h00]
        have : (rep i.toNat (prims zv.cells.toList)).length = 0 := by simp [rep, prims, hzl, h00]
        rw [List.length_eq_zero_iff.1 this]
        simp [rels]
      · rw [if_neg h00, zeroCells_run]
        exact hr
    refine ⟨if i.toNat * st = 0 then #[] else Builtin.zeroCells zv.cells i.toNat, hsrc, by simp [rep, prims, hzl], fun base len k hfit hle => ?_, fun base len k old ho hlt hfit => ?_⟩
    · have hb47 : i.toNat * by_ ≤ 2 ^ 47 := by
        rcases hfit with h0 | hfit
        · rw [h0]; omega
        · have := (fits _ hfit).1
          have h2 : i.toNat * by_ ≤ (2 * (len + i.toNat) + 1000) * by_ := Nat.mul_le_mul_right by_ (by omega)
          omega
      have := append_fits_z (w := w) (ty := ty) (base := base) h0 h1 hs hz hb (n := i.toNat) (by omega) hb47 hle
      rw [← e1] at this
      exact this
    · obtain ⟨g1, g2⟩ := fits _ hfit
      obtain ⟨m, hm⟩ := append_grows_z (w := w) (ty := ty) (base := base) h0 h1 hs hz hb ho g2 hlt hby g1
      rw [← e1] at hm
      exact ⟨m, _, hsrc, hm⟩
  · obtain ⟨g1, g2, g3⟩ := src_run (P := P) hw hx (appended_copied h)
    obtain ⟨r, g4, g5⟩ := g3 n (Nat.le_refl _)
    obtain ⟨_, _, g3'⟩ := src_run (P := P) hw.drew hx (appended_copied h)
    obtain ⟨r', g6, g7⟩ := g3' n (Nat.le_refl _)
    rw [List.take_of_length_le (by omega)] at g7
    rw [List.take_of_length_le (by omega)] at g5
    refine ⟨r, g5, g2, fun base len k _ hle => append_fits_nz h0 h1 hs hd g1 g4 hle, fun base len k old ho hlt hfit => ?_⟩
    obtain ⟨f1, f2⟩ := fits _ hfit
    obtain ⟨m, hm⟩ := append_grows_nz h0 h1 hs hz hb hd g1 ho g6 hlt hby f1
    exact ⟨m, r', g7, hm⟩

theorem take_len_append {α : Type} (a b c : List α) : ((a ++ b) ++ c).take (a.length + b.length) = a ++ b := by
  have : (a ++ b).length = a.length + b.length := by simp
  rw [← this, List.take_left]

/-- A new row of what was there, what came, and zeros. -/
theorem grown_row {γ : Pl} {H : AHeap} {w : World} (hw : Rw γ H w) {old new : List AVal} {o s z : Array Value} (ho : rels γ old o.toList) (hs : rels γ new s.toList) (e : TypeId) (st n m : Nat)
    (cap : Option Nat) (hcap : ∀ c, cap = some c → n + m = c) (hlen : (old ++ new).length = n * st) (hz : z.size = m * st) :
    ∃ γ', rel γ' (.slice H.n 0 n st cap) (.slice (some ⟨w.heap.size, 0, none⟩) n (n + m)) ∧ Rw γ' (H.push (.cells (old ++ new))) (w.alloc (.cells (o ++ s ++ z) e)) ∧
      Stp γ γ' H (H.push (.cells (old ++ new))) w (w.alloc (.cells (o ++ s ++ z) e)) := by
  have h1 := rels_append ho hs
  have l1 := rels_length h1
  have hsz : (o ++ s ++ z).size = n * st + m * st := by
    simp at l1 hlen ⊢
    omega
  have htake : (o ++ s ++ z).toList.take (old ++ new).length = o.toList ++ s.toList := by
    rw [l1]
    simp only [Array.toList_append, List.length_append]
    exact take_len_append _ _ _
  have hrow := row_new hw (l := old ++ new) (cs := o ++ s ++ z) ⟨z.toList, by rw [htake]; simp⟩ (by rw [htake]; exact h1) e
  refine ⟨_, ?_, hrow.1, hrow.2⟩
  simp only [rel]
  refine ⟨_, 0, _, 0, n + m, Pl.put_same _ _ _, rfl, by omega, hcap, .inr rfl, fun _ => ?_⟩
  rw [hsz, Nat.add_mul]
  omega

theorem aappend_run {γ : Pl} {H : AHeap} {w : World} (hw : Rw γ H w) {t0 t1 e : TypeId} (ty : TypeId) {d1 : TypeDesc} {st by_ : Nat} {zv : Value} (h0 : P.underlying t0 = some (.slice e))
    (h1 : P.underlying t1 = some d1) (hs : size? P e = some st) (hz : zero? P e = some zv) (hb : bytes? P e = some by_) (hzl : zv.cells.size = st) (hby : 0 < by_) {zeros : Bool}
    (hzeros : (zeros = true ∧ ∃ q, d1 = .int q) ∨ (zeros = false ∧ ∀ q, d1 ≠ .int q)) {s x : AVal} {s' x' : Value} (hs' : rel γ s s') (hx : rel γ x x') {v : AVal} {H' : AHeap}
    (h : aappend st by_ (prims zv.cells.toList) zeros s x H = some (v, H')) :
    ∃ v' w' γ', (Builtin.append_ #[t0, t1] ty #[s', x']).run P w = .ok v' w' ∧ rel γ' v v' ∧ Rw γ' H' w' ∧ Stp γ γ' H H' w w' := by
  unfold aappend at h
  split at h
  · rename_i new n happ
    obtain ⟨src, r1, r2, r3, r4⟩ := app_model hw ty h0 h1 hs hz hb hzl hby hzeros hx happ
    have hzc : ∀ m, (Builtin.zeroCells zv.cells m).size = m * st := fun m => by simp [Builtin.zeroCells, hzl]
    split at h
    · rw [rel_prim] at hs'
      subst hs'
      split at h
      · rename_i hn
        have hn := Nat.eq_of_beq_eq_true hn
        subst hn
        cases h
        have := r3 none 0 0 (.inl rfl) (Nat.le_refl _)
        exact ⟨.slice none 0 0, w, γ, by rw [this]; simp, by simp [nilSlice, rel_prim], hw, Stp.refl _ _ _⟩
      · rename_i hn
        have hn := Nat.ne_of_beq_eq_false hn
        split at h <;> simp at h
        rename_i hfit
        obtain ⟨rfl, rfl⟩ := h
        obtain ⟨m, src2, q1, q2⟩ := r4 none 0 0 #[] (by simp [Builtin.firstCells]) (by omega) (by simpa using hfit)
        simp only [Nat.zero_add] at q2
        obtain ⟨γ', g1, g2, g3⟩ := grown_row hw.drew (old := []) (o := #[]) (z := Builtin.zeroCells zv.cells m) (by simp [rels]) q1 e st n m none (by simp) (by simpa using r2) (hzc m)
        exact ⟨_, _, γ', q2, g1, by simpa using g2, (Stp.drew γ H w).trans (by simpa using g3)⟩
    · rename_i b off len st' cap
      split at h <;> try (cases h; done)
      rename_i hst
      subst hst
      obtain ⟨c, sh, z, a, k, hb', rfl, hlk, hck, hak, hzb⟩ := (by simpa only [rel] using hs')
      split at h
      · rename_i hn
        have hn := Nat.eq_of_beq_eq_true hn
        subst hn
        cases h
        have := r3 (some ⟨c, a, none⟩) len k (.inl rfl) (by omega)
        have hsrc : src.toList = [] := by
          have := rels_length r1
          simp at r2
          subst r2
          simpa using this.symm
        refine ⟨.slice (some ⟨c, a, none⟩) len k, w, γ, by rw [this, hsrc]; simp [storeCells], ?_, hw, Stp.refl _ _ _⟩
        simp only [rel]
        exact ⟨c, sh, z, a, k, hb', rfl, hlk, hck, hak, hzb⟩
      · rename_i hn
        have hn := Nat.ne_of_beq_eq_false hn
        split at h <;> try (cases h; done)
        rename_i hcond
        obtain ⟨hfit, hone⟩ := hcond
        have hofs : ∀ (l : List AVal), sliceCells (.slice b off len st' cap) st' H = some l → ∃ r, (Builtin.firstCells st' len (.slice (some ⟨c, a, none⟩) len k)).run P w.drew = .ok r w.drew ∧ rels γ l r.toList ∧ l.length = len * st' := by
          intro l hl
          obtain ⟨n', k', ⟨a', e1, _⟩, hf, hlen, hnn⟩ := sliceCells_run (P := P) hw.drew hs' hl
          obtain rfl := hnn _ _ _ _ _ rfl
          obtain ⟨r, g1, g2⟩ := hf n' (Nat.le_refl _)
          rw [List.take_of_length_le (by omega)] at g2
          exact ⟨r, g1, g2, hlen⟩
        have grow : ∀ (l : List AVal), sliceCells (.slice b off len st' cap) st' H = some l → k < len + n → ∀ (H2 : AHeap), Rw γ H2 w → H2.n = H.n → Stp γ γ H H2 w w →
            ∃ v' w' γ', (Builtin.append_ #[t0, t1] ty #[.slice (some ⟨c, a, none⟩) len k, x']).run P w = .ok v' w' ∧ rel γ' (.slice H.n 0 (len + n) st' none) v' ∧
              Rw γ' (H2.push (.cells (l ++ new))) w' ∧ Stp γ γ' H (H2.push (.cells (l ++ new))) w w' := by
          intro l hl hlt H2 hw2 hn2 hst2
          obtain ⟨r, g1, g2, g3⟩ := hofs l hl
          obtain ⟨m, src2, q1, q2⟩ := r4 _ len k r g1 hlt hfit
          obtain ⟨γ', p1, p2, p3⟩ := grown_row hw2.drew (z := Builtin.zeroCells zv.cells m) g2 q1 e st' (len + n) m none (by simp) (by simp [g3, r2, Nat.add_mul]) (hzc m)
          rw [hn2] at p1
          exact ⟨_, _, γ', q2, p1, p2, (hst2.trans (Stp.drew γ H2 w)).trans p3⟩
        cases cap with
        | some cc =>
          have hkc := hck cc rfl
          subst hkc
          simp only at h
          split at h
          · rename_i hle
            cases hl : layCells H b (off + len * st') new with
            | none => rw [hl] at h; cases h
            | some H2 =>
              rw [hl] at h
              simp at h
              obtain ⟨rfl, rfl⟩ := h
              have ha : a = sh + off := hak.resolve_left (by omega)
              subst ha
              obtain ⟨w', g1, g2, g3⟩ := lay_run (P := P) hw hb' r1 hl
              have hrun := r3 (some ⟨c, sh + off, none⟩) len k (.inr hfit) hle
              rw [← Nat.add_assoc] at g1
              refine ⟨.slice (some ⟨c, sh + off, none⟩) (len + n) k, w', γ, by rw [hrun]; simp [addr_add, g1], ?_, g2, g3⟩
              simp only [rel]
              exact ⟨c, sh, z, sh + off, k, hb', rfl, hle, fun q hq => by simpa using hq, .inr rfl, fun hc => by cases hc⟩
          · rename_i hle
            cases hl : sliceCells (.slice b off len st' (some k)) st' H with
            | none => rw [hl] at h; cases h
            | some l =>
              rw [hl] at h
              simp at h
              obtain ⟨rfl, rfl⟩ := h
              exact grow l hl (by omega) H hw rfl (Stp.refl _ _ _)
        | none =>
          simp only at h
          cases hl : sliceCells (.slice b off len st' none) st' H with
          | none => rw [hl] at h; cases h
          | some l =>
            rw [hl] at h
            simp at h
            obtain ⟨rfl, rfl⟩ := h
            by_cases hle : len + n ≤ k
            · have ha : a = sh + off := hak.resolve_left (by omega)
              subst ha
              have hzb := hzb rfl
              have hl0 := hl
              unfold sliceCells at hl0
              simp only at hl0
              split at hl0 <;> try (cases hl0; done)
              rename_i cells hg
              split at hl0 <;> simp at hl0
              rename_i hcov
              obtain ⟨cs, e', lo, hi, c1, c2, c3, c4, c5⟩ := cells_live hw hb' hg
              have hkm : (len + n) * st' ≤ k * st' := Nat.mul_le_mul_right _ hle
              rw [Nat.add_mul] at hkm
              have hsl := rels_length r1
              have hss : src.toList.length = src.size := by simp
              obtain ⟨cs', g1, g2⟩ := store_run (P := P) src.toList (sh + off + len * st') 0 w cs c1 (by rw [c2]; exact c5) (all_one r1 hone) (by rw [← hsl, r2]; omega)
              have hsz : cs'.size = z := by
                have := congrArg List.length g2
                simp at this
                simp at hsl
                omega
              have hnone : γ H.n = none := by
                cases eh : γ H.n with
                | none => rfl
                | some p => have := hw.dom _ _ eh; omega
              have hobj : objRel (γ.put H.n (c, sh + off, z)) (.cells (l ++ new)) (sh + off) z (.cells cs' e' (lo, hi)) := by
                refine ⟨cs', e', lo, hi, rfl, hsz, ?_, ?_, c5⟩
                · have : l.length = len * st' := by rw [← hl0]; simp; omega
                  simp [this, r2]; omega
                · refine rels_mono (Ext.put _ hnone) _ _ ?_
                  have hll : l.length = len * st' := by rw [← hl0]; simp; omega
                  rw [g2, Nat.add_zero]
                  have e1 : ((cs.toList.take (sh + off + len * st') ++ (src.toList ++ cs.toList.drop (sh + off + len * st' + src.toList.length))).drop (sh + off)).take (l ++ new).length =
                      (cs.toList.drop (sh + off)).take (len * st') ++ src.toList := by
                    rw [List.drop_append_of_le_length (by simp; omega), List.drop_take, Nat.add_sub_cancel_left]
                    have e2 : (l ++ new).length = ((cs.toList.drop (sh + off)).take (len * st')).length + src.toList.length := by
                      simp [hll]; omega
                    rw [e2, ← List.append_assoc]
                    exact take_len_append _ _ _
                  rw [e1, ← hl0]
                  exact rels_append (stretch c4 off (len * st') hcov.2) r1
              obtain ⟨p1, p2⟩ := hw.take hb' hg hobj
              have hrun := r3 (some ⟨c, sh + off, none⟩) len k (.inr hfit) hle
              refine ⟨.slice (some ⟨c, sh + off, none⟩) (len + n) k, _, _, by rw [hrun]; simp [addr_add, g1], ?_, p1, p2⟩
              simp only [rel]
              exact ⟨c, sh + off, z, sh + off, k, Pl.put_same _ _ _, rfl, hle, by simp, by simp, by intro _; omega⟩
            · exact grow l hl (by omega) (H.kill b) (hw.kill b) (by simp) (Stp.kill hb')
    · cases h
  · cases h

theorem acopy_run {γ : Pl} {H : AHeap} {w : World} (hw : Rw γ H w) {t0 t1 e : TypeId} (ty : TypeId) {st : Nat} (h0 : P.underlying t0 = some (.slice e))
    (hs : size? P e = some st) {d x : AVal} {d' x' : Value} (hd : rel γ d d') (hx : rel γ x x') {v : AVal} {H' : AHeap} (h : acopy st d x H = some (v, H')) :
    ∃ v' w' γ', (Builtin.copy_ #[t0, t1] ty #[d', x']).run P w = .ok v' w' ∧ rel γ' v v' ∧ Rw γ' H' w' ∧ Stp γ γ' H H' w w' := by
  unfold acopy at h
  split at h
  · rename_i l m hc
    obtain ⟨g1, g2, g3⟩ := src_run (P := P) hw hx hc
    split at h
    · rename_i b off len st' cap
      split at h <;> try (cases h; done)
      rename_i hst
      subst hst
      obtain ⟨c, sh, z, a, k, hb', rfl, hlk, hck, hak, hzb⟩ := (by simpa only [rel] using hd)
      obtain ⟨r, q1, q2⟩ := g3 (min m len) (Nat.min_le_left _ _)
      split at h
      · rename_i hn
        have hn := Nat.eq_of_beq_eq_true hn
        simp at h
        obtain ⟨rfl, rfl⟩ := h
        rw [hn] at q1 q2
        have hr : r.toList = [] := by simpa using (rels_length q2).symm
        refine ⟨.int .i64 0, w, γ, ?_, by simp [int, rel_prim], hw, Stp.refl _ _ _⟩
        have hmin : Nat.min m len = 0 := hn
        simp [Builtin.copy_, und_run h0, g1, hmin, size_run hs, q1, hr, storeCells, goInt]
      · rename_i hn
        have hn := Nat.ne_of_beq_eq_false hn
        cases hl : layCells H b off (l.take (min m len * st')) with
        | none => rw [hl] at h; cases h
        | some H2 =>
          rw [hl] at h
          simp at h
          obtain ⟨rfl, rfl⟩ := h
          have ha : a = sh + off := hak.resolve_left (by omega)
          subst ha
          obtain ⟨w', p1, p2, p3⟩ := lay_run (P := P) hw hb' q2 hl
          refine ⟨.int .i64 (min m len : Nat), w', γ, ?_, by simp [int, rel_prim], p2, p3⟩
          have hmin : Nat.min m len = min m len := rfl
          simp [Builtin.copy_, und_run h0, g1, hmin, size_run hs, q1, p1, goInt]
    · simp at h
      obtain ⟨rfl, rfl⟩ := h
      rw [rel_prim] at hd
      subst hd
      obtain ⟨r, q1, q2⟩ := g3 0 (Nat.zero_le _)
      refine ⟨.int .i64 0, w, γ, ?_, by simp [int, rel_prim], hw, Stp.refl _ _ _⟩
      have hmin : Nat.min m 0 = 0 := Nat.min_zero m
      simp [Builtin.copy_, und_run h0, g1, size_run hs, q1, goInt]
    · cases h
  · cases h

theorem aclearSl_run {γ : Pl} {H : AHeap} {w : World} (hw : Rw γ H w) {t e : TypeId} {st : Nat} {zv : Value} (hd : P.underlying t = some (.slice e)) (hz : zero? P e = some zv) (hzl : zv.cells.size = st)
    {x : AVal} {x' : Value} (hx : rel γ x x') {H' : AHeap} (h : aclearSl st (prims zv.cells.toList) x H = some H') (ty : TypeId) :
    ∃ w', (Builtin.clear_ #[t] ty #[x']).run P w = .ok (.tuple #[]) w' ∧ Rw γ H' w' ∧ Stp γ γ H H' w w' := by
  unfold aclearSl at h
  split at h
  · rename_i b off len st' cap
    split at h <;> try (cases h; done)
    rename_i hst
    subst hst
    obtain ⟨c, sh, z, a, k, hb', rfl, hlk, hck, hak, hzb⟩ := (by simpa only [rel] using hx)
    split at h
    · rename_i hn
      have hn := Nat.eq_of_beq_eq_true hn
      subst hn
      cases h
      exact ⟨w, by simp [Builtin.clear_, und_run hd], hw, Stp.refl _ _ _⟩
    · rename_i hn
      have hn := Nat.ne_of_beq_eq_false hn
      have ha : a = sh + off := hak.resolve_left (by omega)
      subst ha
      have hr := rels_flatten_replicate (rels_prims γ zv.cells.toList) len
      rw [← zeroCells_run] at hr
      obtain ⟨w', p1, p2, p3⟩ := lay_run (P := P) hw hb' hr h
      refine ⟨w', ?_, p2, p3⟩
      cases len with
      | zero => exact absurd rfl hn
      | succ len => simp [Builtin.clear_, und_run hd, zero_run hz, p1]
  · cases h
    rw [rel_prim] at hx
    subst hx
    exact ⟨w, by simp [Builtin.clear_, und_run hd], hw, Stp.refl _ _ _⟩
  · cases h
end
end Go.AM
