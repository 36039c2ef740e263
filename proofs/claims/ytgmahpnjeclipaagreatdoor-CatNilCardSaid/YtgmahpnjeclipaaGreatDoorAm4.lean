/- The relation between the abstract machine's memory and the model's, and how it is kept. No condition. -/
import Derived.Test.YtgmahpnjeclipaaGreatDoorAm3
import Derived.Laws.World
import Derived.Laws.Entries
namespace Go.AM

/-- Where abstract blocks lie: the block, the shift, the block's cells. -/
abbrev Pl := Nat → Option (Nat × Nat × Nat)

mutual
def rel (γ : Pl) : AVal → Value → Prop
  | .prim v, w => w = v
  | .ptr b o, w => ∃ c s z, γ b = some (c, s, z) ∧ w = .pointer (some ⟨c, s + o, none⟩)
  | .slice b o n st cap, w => ∃ c s z a k, γ b = some (c, s, z) ∧ w = .slice (some ⟨c, a, none⟩) n k ∧ n ≤ k ∧ (∀ m, cap = some m → k = m) ∧
      (k = 0 ∨ a = s + o) ∧ (cap = none → s + o + k * st ≤ z)
  | .map r, w => ∃ c s z, γ r = some (c, s, z) ∧ w = .map (some c)
  | .func f first caps, w => ∃ fs cs, w = .func (.func f) fs cs ∧ rels γ first fs.toList ∧ rels γ caps cs.toList
  | .agg l, w => ∃ cs, w = .agg cs ∧ rels γ l cs.toList
  | .tuple l, w => ∃ cs, w = .tuple cs ∧ rels γ l cs.toList
def rels (γ : Pl) : List AVal → List Value → Prop
  | [], [] => True
  | x :: l, y :: l' => rel γ x y ∧ rels γ l l'
  | _, _ => False
end

def Ext (γ γ' : Pl) : Prop := ∀ b p, γ b = some p → γ' b = some p

theorem Ext.refl (γ : Pl) : Ext γ γ := fun _ _ h => h
theorem Ext.trans {a b c : Pl} (h : Ext a b) (k : Ext b c) : Ext a c := fun x p e => k x p (h x p e)

mutual
theorem rel_mono {γ γ' : Pl} (h : Ext γ γ') : ∀ (v : AVal) (w : Value), rel γ v w → rel γ' v w
  | .prim v, w, r => by simpa [rel] using r
  | .ptr b o, w, r => by
    simp only [rel] at r ⊢
    obtain ⟨c, s, z, e, rfl⟩ := r
    exact ⟨c, s, z, h _ _ e, rfl⟩
  | .slice b o n st cap, w, r => by
    simp only [rel] at r ⊢
    obtain ⟨c, s, z, a, k, e, r⟩ := r
    exact ⟨c, s, z, a, k, h _ _ e, r⟩
  | .map r, w, q => by
    simp only [rel] at q ⊢
    obtain ⟨c, s, z, e, q⟩ := q
    exact ⟨c, s, z, h _ _ e, q⟩
  | .func f first caps, w, r => by
    simp only [rel] at r ⊢
    obtain ⟨fs, cs, e, r1, r2⟩ := r
    exact ⟨fs, cs, e, rels_mono h _ _ r1, rels_mono h _ _ r2⟩
  | .agg l, w, r => by
    simp only [rel] at r ⊢
    obtain ⟨cs, e, r⟩ := r
    exact ⟨cs, e, rels_mono h _ _ r⟩
  | .tuple l, w, r => by
    simp only [rel] at r ⊢
    obtain ⟨cs, e, r⟩ := r
    exact ⟨cs, e, rels_mono h _ _ r⟩
theorem rels_mono {γ γ' : Pl} (h : Ext γ γ') : ∀ (l : List AVal) (l' : List Value), rels γ l l' → rels γ' l l'
  | [], [], _ => by simp [rels]
  | x :: l, y :: l', r => by
    simp only [rels] at r ⊢
    exact ⟨rel_mono h _ _ r.1, rels_mono h _ _ r.2⟩
  | [], _ :: _, r => by simp [rels] at r
  | _ :: _, [], r => by simp [rels] at r
end

theorem rels_length {γ : Pl} : ∀ {l : List AVal} {l' : List Value}, rels γ l l' → l.length = l'.length
  | [], [], _ => rfl
  | x :: l, y :: l', r => by
    simp only [rels] at r
    simp [rels_length r.2]
  | [], _ :: _, r => by simp [rels] at r
  | _ :: _, [], r => by simp [rels] at r

theorem rels_get {γ : Pl} : ∀ {l : List AVal} {l' : List Value}, rels γ l l' → ∀ (i : Nat) (v : AVal), l[i]? = some v → ∃ v', l'[i]? = some v' ∧ rel γ v v'
  | [], [], _, i, v, h => by simp at h
  | x :: l, y :: l', r, 0, v, h => by
    simp only [rels] at r
    simp at h
    subst h
    exact ⟨y, rfl, r.1⟩
  | x :: l, y :: l', r, i + 1, v, h => by
    simp only [rels] at r
    simpa using rels_get r.2 i v (by simpa using h)
  | [], _ :: _, r, _, _, _ => by simp [rels] at r
  | _ :: _, [], r, _, _, _ => by simp [rels] at r

theorem rels_of_get {γ : Pl} : ∀ {l : List AVal} {l' : List Value}, l.length = l'.length →
    (∀ (i : Nat) (v : AVal), l[i]? = some v → ∃ v', l'[i]? = some v' ∧ rel γ v v') → rels γ l l'
  | [], [], _, _ => by simp [rels]
  | x :: l, y :: l', hl, h => by
    simp only [rels]
    refine ⟨?_, rels_of_get (by simpa using hl) fun i v hi => ?_⟩
    · obtain ⟨v', h1, h2⟩ := h 0 x rfl
      simp at h1
      subst h1
      exact h2
    · simpa using h (i + 1) v (by simpa using hi)
  | [], _ :: _, hl, _ => by simp at hl
  | _ :: _, [], hl, _ => by simp at hl

theorem rels_append {γ : Pl} : ∀ {a : List AVal} {a' : List Value} {b : List AVal} {b' : List Value}, rels γ a a' → rels γ b b' → rels γ (a ++ b) (a' ++ b')
  | [], [], _, _, _, h => by simpa using h
  | x :: l, y :: l', b, b', r, h => by
    simp only [rels] at r
    simp only [List.cons_append, rels]
    exact ⟨r.1, rels_append r.2 h⟩
  | [], _ :: _, _, _, r, _ => by simp [rels] at r
  | _ :: _, [], _, _, r, _ => by simp [rels] at r

theorem rels_take {γ : Pl} : ∀ {a : List AVal} {a' : List Value} (n : Nat), rels γ a a' → rels γ (a.take n) (a'.take n)
  | [], [], n, _ => by simp [rels]
  | x :: l, y :: l', 0, _ => by simp [rels]
  | x :: l, y :: l', n + 1, r => by
    simp only [rels] at r
    simp only [List.take_succ_cons, rels]
    exact ⟨r.1, rels_take n r.2⟩
  | [], _ :: _, _, r => by simp [rels] at r
  | _ :: _, [], _, r => by simp [rels] at r

theorem rels_drop {γ : Pl} : ∀ {a : List AVal} {a' : List Value} (n : Nat), rels γ a a' → rels γ (a.drop n) (a'.drop n)
  | [], [], n, _ => by simp [rels]
  | x :: l, y :: l', 0, r => by simpa using r
  | x :: l, y :: l', n + 1, r => by
    simp only [rels] at r
    simpa using rels_drop n r.2
  | [], _ :: _, _, r => by simp [rels] at r
  | _ :: _, [], _, r => by simp [rels] at r

theorem rels_prims (γ : Pl) : ∀ z : List Value, rels γ (prims z) z
  | [] => by simp [rels, prims]
  | v :: z => by
    have := rels_prims γ z
    simp only [prims, List.map_cons, rels] at *
    exact ⟨rfl, this⟩

theorem rels_map {γ : Pl} {α : Type} {f : α → AVal} {g : α → Value} (h : ∀ x, rel γ (f x) (g x)) : ∀ l : List α, rels γ (l.map f) (l.map g)
  | [] => by simp [rels]
  | x :: l => by simp only [List.map_cons, rels]; exact ⟨h x, rels_map h l⟩

theorem rels_flatten_replicate {γ : Pl} {z : List AVal} {z' : List Value} (h : rels γ z z') : ∀ n, rels γ (rep n z) (List.replicate n z').flatten
  | 0 => by simp [rep, rels]
  | n + 1 => by
    have := rels_flatten_replicate h n
    simp only [rep, List.replicate_succ, List.flatten_cons] at *
    exact rels_append h this

/-- What an abstract object is, of an object of the model. -/
def objRel (γ : Pl) (o : AObj) (s z : Nat) (ob : Obj) : Prop :=
  match o with
  | .cells l => ∃ cs e lo hi, ob = .cells cs e (lo, hi) ∧ cs.size = z ∧ s + l.length ≤ z ∧ rels γ l ((cs.toList.drop s).take l.length) ∧ (lo = hi ∨ z ≤ lo)
  | .map es => ∃ ents clock, ob = .map ents clock ∧ es.length = ents.size ∧
      (∀ (i : Nat) (k : Value) (v : AVal), es[i]? = some (k, v) → ∃ en, ents[i]? = some en ∧ en.key = k ∧ rel γ v en.val) ∧
      (∀ (i : Nat) (en : MapEntry), ents[i]? = some en → en.born < clock) ∧
      (∀ (i j : Nat) (en em : MapEntry), i < j → ents[i]? = some en → ents[j]? = some em → en.born < em.born)
  | .iter str pos => s = 0 ∧ ob = .stringIter str pos
  | .miter m => s = 0 ∧ ∃ c s z since clock, γ m = some (c, s, z) ∧ ob = .mapIter (some c) since #[] clock

theorem objRel_mono {γ γ' : Pl} (h : Ext γ γ') {o : AObj} {s z : Nat} {ob : Obj} (r : objRel γ o s z ob) : objRel γ' o s z ob := by
  cases o with
  | cells l =>
    obtain ⟨cs, e, lo, hi, h1, h2, h3, h4, h5⟩ := r
    exact ⟨cs, e, lo, hi, h1, h2, h3, rels_mono h _ _ h4, h5⟩
  | map es =>
    obtain ⟨ents, clock, h1, h2, h3, h4⟩ := r
    refine ⟨ents, clock, h1, h2, fun i k v hi => ?_, h4⟩
    obtain ⟨en, e1, e2, e3⟩ := h3 i k v hi
    exact ⟨en, e1, e2, rel_mono h _ _ e3⟩
  | iter str pos => exact r
  | miter m =>
    obtain ⟨s0, c, s, z, since, clock, e, r⟩ := r
    exact ⟨s0, c, s, z, since, clock, h _ _ e, r⟩

/-- The abstract heap tells of the world. -/
structure Rw (γ : Pl) (H : AHeap) (w : World) : Prop where
  fresh : ∀ b, H.n ≤ b → H.get b = none
  dom : ∀ b p, γ b = some p → b < H.n
  low : ∀ b c s z, γ b = some (c, s, z) → c < w.heap.size
  live : ∀ b c s z o, γ b = some (c, s, z) → H.get b = some o → ∃ ob, w.heap[c]? = some ob ∧ objRel γ o s z ob
  inj : ∀ b b' c s z s' z' o o', γ b = some (c, s, z) → γ b' = some (c, s', z') → H.get b = some o → H.get b' = some o' → b = b'

/-- A step of both. -/
structure Stp (γ γ' : Pl) (H H' : AHeap) (w w' : World) : Prop where
  ext : Ext γ γ'
  img : ∀ b p, γ' b = some p → γ b = some p ∨ (H.n ≤ b ∧ ((∃ b0 q, γ b0 = some q ∧ q.1 = p.1 ∧ H.get b0 ≠ none) ∨ w.heap.size ≤ p.1))
  hn : H.n ≤ H'.n
  out : ∀ b, γ b = none → b < H.n → H'.get b = H.get b
  os : w'.os = w.os
  tape : w'.tape = w.tape
  output : w'.output = w.output
  size : w.heap.size ≤ w'.heap.size
  keep : ∀ c, c < w.heap.size → (∀ b p, γ b = some p → p.1 ≠ c) → w'.heap[c]? = w.heap[c]?
  dead : ∀ b p, γ b = some p → H.get b = none → H'.get b = none
  keepM : ∀ c, c < w.heap.size → (∀ cs e f, w.heap[c]? ≠ some (.cells cs e f)) → (∀ b p, γ b = some p → p.1 = c → H.get b = none) → w'.heap[c]? = w.heap[c]?

theorem Stp.refl (γ : Pl) (H : AHeap) (w : World) : Stp γ γ H H w w :=
  ⟨Ext.refl γ, fun _ _ h => .inl h, Nat.le_refl _, fun _ _ _ => rfl, rfl, rfl, rfl, Nat.le_refl _, fun _ _ _ => rfl, fun _ _ _ h => h, fun _ _ _ _ => rfl⟩

theorem Stp.trans {γ γ1 γ2 : Pl} {H H1 H2 : AHeap} {w w1 w2 : World} (h : Stp γ γ1 H H1 w w1) (k : Stp γ1 γ2 H1 H2 w1 w2) : Stp γ γ2 H H2 w w2 := by
  refine ⟨h.ext.trans k.ext, fun b p e => ?_, Nat.le_trans h.hn k.hn, fun b e hb => ?_, k.os.trans h.os, k.tape.trans h.tape, k.output.trans h.output,
    Nat.le_trans h.size k.size, fun c hc hn => ?_, fun b p e hb => k.dead b p (h.ext b p e) (h.dead b p e hb), fun c hc hnc hn => ?_⟩
  · rcases k.img b p e with e1 | ⟨hb, e1⟩
    · exact h.img b p e1
    · refine .inr ⟨Nat.le_trans h.hn hb, ?_⟩
      rcases e1 with ⟨b0, q, e0, eq, el⟩ | hs
      · rcases h.img b0 q e0 with e2 | ⟨_, e2⟩
        · exact .inl ⟨b0, q, e2, eq, fun hd => el (h.dead b0 q e2 hd)⟩
        · rcases e2 with ⟨b3, q3, e3, eq3, el3⟩ | hs
          · exact .inl ⟨b3, q3, e3, eq3.trans eq, el3⟩
          · exact .inr (eq ▸ hs)
      · exact .inr (Nat.le_trans h.size hs)
  · have e1 : γ1 b = none := by
      cases hh : γ1 b with
      | none => rfl
      | some p =>
        rcases h.img b p hh with e2 | ⟨h2, _⟩
        · rw [e] at e2; cases e2
        · omega
    rw [k.out b e1 (Nat.lt_of_lt_of_le hb h.hn), h.out b e hb]
  · rw [k.keep c (Nat.lt_of_lt_of_le hc h.size) fun b p e => ?_, h.keep c hc hn]
    rcases h.img b p e with e1 | ⟨_, e1⟩
    · exact hn b p e1
    · rcases e1 with ⟨b0, q, e0, eq, _⟩ | hs
      · exact eq ▸ hn b0 q e0
      · omega
  · have e0 := h.keepM c hc hnc hn
    rw [k.keepM c (Nat.lt_of_lt_of_le hc h.size) (by rw [e0]; exact hnc) fun b p e hp => ?_, e0]
    rcases h.img b p e with e1 | ⟨_, e1⟩
    · exact h.dead b p e1 (hn b p e1 hp)
    · rcases e1 with ⟨b0, q, e0, eq, el⟩ | hs
      · exact absurd (hn b0 q e0 (eq.trans hp)) el
      · omega

/-- An object of the model in its place. -/
def _root_.Go.World.setObj (w : World) (c : Nat) (o : Obj) : World := { w with heap := w.heap.setIfInBounds c o }

theorem setObj_get (w : World) (c : Nat) (o : Obj) (d : Nat) : (w.setObj c o).heap[d]? = if d = c ∧ c < w.heap.size then some o else w.heap[d]? := by
  simp only [World.setObj, Array.getElem?_setIfInBounds]
  by_cases h : d = c
  · subst h
    by_cases hc : d < w.heap.size
    · simp [hc]
    · simp [hc]
  · simp [h, Ne.symm h]

theorem setObj_size (w : World) (c : Nat) (o : Obj) : (w.setObj c o).heap.size = w.heap.size := by simp [World.setObj]

theorem Rw.of_heap {γ : Pl} {H : AHeap} {w w' : World} (h : Rw γ H w) (e : w'.heap = w.heap) : Rw γ H w' :=
  ⟨h.fresh, h.dom, by rw [e]; exact h.low, by rw [e]; exact h.live, h.inj⟩

/-- A draw. -/
theorem Rw.drew {γ : Pl} {H : AHeap} {w : World} (h : Rw γ H w) : Rw γ H w.drew := h.of_heap rfl
theorem Stp.drew (γ : Pl) (H : AHeap) (w : World) : Stp γ γ H H w w.drew :=
  ⟨Ext.refl γ, fun _ _ h => .inl h, Nat.le_refl _, fun _ _ _ => rfl, rfl, rfl, rfl, Nat.le_refl _, fun _ _ _ => rfl, fun _ _ _ h => h, fun _ _ _ _ => rfl⟩

/-- An object is changed in its place; its shift may be another's name. -/
theorem Rw.set {γ : Pl} {H : AHeap} {w : World} (h : Rw γ H w) {b c s z : Nat} {o o0 : AObj} {ob : Obj} (hb : γ b = some (c, s, z)) (h0 : H.get b = some o0)
    (hr : objRel γ o s z ob) : Rw γ (H.set b o) (w.setObj c ob) ∧ Stp γ γ H (H.set b o) w (w.setObj c ob) := by
  have hlt := h.dom b _ hb
  have hc := h.low b _ _ _ hb
  refine ⟨⟨fun x hx => ?_, fun x p e => by simpa using h.dom x p e, fun x c s z e => by rw [setObj_size]; exact h.low x c s z e, fun x c' s' z' o' e eo => ?_, fun x y c' s1 z1 s2 z2 o1 o2 e1 e2 g1 g2 => ?_⟩,
    ⟨Ext.refl γ, fun _ _ h => .inl h, by simp, fun x e hx => ?_, rfl, rfl, rfl, by simp [World.setObj], fun d hd hn => ?_, fun x p e hx => ?_, fun d hd hnc hn => ?_⟩⟩
  · rw [AHeap.get_set]
    simp only [AHeap.n_set] at hx
    rw [if_neg (by omega)]
    exact h.fresh x hx
  · rw [AHeap.get_set] at eo
    by_cases hx : x = b
    · subst hx
      rw [hb] at e
      cases e
      rw [if_pos rfl] at eo
      cases eo
      exact ⟨ob, by rw [setObj_get, if_pos ⟨rfl, hc⟩], hr⟩
    · rw [if_neg hx] at eo
      obtain ⟨ob', e1, e2⟩ := h.live x c' s' z' o' e eo
      refine ⟨ob', ?_, e2⟩
      rw [setObj_get, if_neg, e1]
      rintro ⟨rfl, _⟩
      exact hx (h.inj x b _ _ _ _ _ _ _ e hb eo h0)
  · rw [AHeap.get_set] at g1 g2
    have k1 : ∃ o, H.get x = some o := by
      by_cases hx : x = b
      · exact ⟨o0, hx ▸ h0⟩
      · rw [if_neg hx] at g1; exact ⟨_, g1⟩
    have k2 : ∃ o, H.get y = some o := by
      by_cases hy : y = b
      · exact ⟨o0, hy ▸ h0⟩
      · rw [if_neg hy] at g2; exact ⟨_, g2⟩
    obtain ⟨_, k1⟩ := k1
    obtain ⟨_, k2⟩ := k2
    exact h.inj x y _ _ _ _ _ _ _ e1 e2 k1 k2
  · rw [AHeap.get_set, if_neg]
    rintro rfl
    rw [hb] at e
    cases e
  · rw [setObj_get, if_neg]
    rintro ⟨rfl, _⟩
    exact hn b _ hb rfl
  · rw [AHeap.get_set, if_neg]
    · exact hx
    · rintro rfl
      rw [h0] at hx
      cases hx
  · rw [setObj_get, if_neg]
    rintro ⟨rfl, _⟩
    have := hn b _ hb rfl
    rw [h0] at this
    cases this

/-- One more place. -/
def Pl.put (γ : Pl) (b : Nat) (p : Nat × Nat × Nat) : Pl := fun x => if x = b then some p else γ x

theorem Pl.put_same (γ : Pl) (b : Nat) (p : Nat × Nat × Nat) : γ.put b p b = some p := by simp [Pl.put]
theorem Pl.put_other (γ : Pl) {b x : Nat} (p : Nat × Nat × Nat) (h : x ≠ b) : γ.put b p x = γ x := by simp [Pl.put, h]

theorem Ext.put {γ : Pl} {b : Nat} (p : Nat × Nat × Nat) (h : γ b = none) : Ext γ (γ.put b p) := fun x q e => by
  rw [Pl.put_other]
  · exact e
  · rintro rfl; rw [h] at e; cases e

/-- A new object, of which the abstract heap knows at once. -/
theorem Rw.push {γ : Pl} {H : AHeap} {w : World} (h : Rw γ H w) {o : AObj} {ob : Obj} {z : Nat} (hr : objRel (γ.put H.n (w.heap.size, 0, z)) o 0 z ob) :
    Rw (γ.put H.n (w.heap.size, 0, z)) (H.push o) (w.alloc ob) ∧ Stp γ (γ.put H.n (w.heap.size, 0, z)) H (H.push o) w (w.alloc ob) := by
  have hnone : γ H.n = none := by
    cases e : γ H.n with
    | none => rfl
    | some p => have := h.dom _ _ e; omega
  have hext := Ext.put (γ := γ) (w.heap.size, 0, z) hnone
  have hold : ∀ c, c < w.heap.size → (w.alloc ob).heap[c]? = w.heap[c]? := fun c hc => by
    show (w.heap.push ob)[c]? = _
    rw [Array.getElem?_push, if_neg (by omega)]
  refine ⟨⟨fun x hx => ?_, fun x p e => ?_, fun x c s z' e => ?_, fun x c' s' z' o' e eo => ?_, fun x y c' s1 z1 s2 z2 o1 o2 e1 e2 g1 g2 => ?_⟩,
    ⟨hext, fun x p e => ?_, by simp, fun x e hx => ?_, rfl, rfl, rfl, by simp, fun d hd hn => hold d hd, fun x p e hx => ?_, fun d hd _ _ => hold d hd⟩⟩
  · simp only [AHeap.n_push] at hx
    rw [AHeap.get_push, if_neg (by omega)]
    exact h.fresh x (by omega)
  · by_cases hx : x = H.n
    · subst hx; simp
    · rw [Pl.put_other _ _ hx] at e
      have := h.dom x p e
      simp; omega
  · by_cases hx : x = H.n
    · subst hx; rw [Pl.put_same] at e; cases e; simp
    · rw [Pl.put_other _ _ hx] at e
      have := h.low x _ _ _ e
      simp; omega
  · rw [AHeap.get_push] at eo
    by_cases hx : x = H.n
    · subst hx
      rw [Pl.put_same] at e
      cases e
      rw [if_pos rfl] at eo
      cases eo
      exact ⟨ob, by show (w.heap.push ob)[w.heap.size]? = _; simp, hr⟩
    · rw [if_neg hx] at eo
      rw [Pl.put_other _ _ hx] at e
      obtain ⟨ob', e1, e2⟩ := h.live x c' s' z' o' e eo
      exact ⟨ob', by rw [hold _ (h.low x _ _ _ e)]; exact e1, objRel_mono hext e2⟩
  · rw [AHeap.get_push] at g1 g2
    by_cases hx : x = H.n
    · by_cases hy : y = H.n
      · rw [hx, hy]
      · subst hx
        rw [Pl.put_same] at e1
        rw [Pl.put_other _ _ hy] at e2
        cases e1
        have := h.low y _ _ _ e2
        omega
    · by_cases hy : y = H.n
      · subst hy
        rw [Pl.put_same] at e2
        rw [Pl.put_other _ _ hx] at e1
        cases e2
        have := h.low x _ _ _ e1
        omega
      · rw [if_neg hx] at g1
        rw [if_neg hy] at g2
        rw [Pl.put_other _ _ hx] at e1
        rw [Pl.put_other _ _ hy] at e2
        exact h.inj x y _ _ _ _ _ _ _ e1 e2 g1 g2
  · by_cases hx : x = H.n
    · subst hx
      rw [Pl.put_same] at e
      cases e
      exact .inr ⟨Nat.le_refl _, .inr (Nat.le_refl _)⟩
    · rw [Pl.put_other _ _ hx] at e
      exact .inl e
  · rw [AHeap.get_push, if_neg (by omega)]
  · have := h.dom x p e
    rw [AHeap.get_push, if_neg (by omega)]
    exact hx

/-- An object is forgotten. -/
theorem Rw.kill {γ : Pl} {H : AHeap} {w : World} (h : Rw γ H w) (b : Nat) : Rw γ (H.kill b) w := by
  have hg : ∀ x o, (H.kill b).get x = some o → H.get x = some o ∧ x ≠ b := fun x o e => by
    rw [AHeap.get_kill] at e
    by_cases hx : x = b
    · rw [if_pos hx] at e; cases e
    · rw [if_neg hx] at e; exact ⟨e, hx⟩
  refine ⟨fun x hx => ?_, fun x p e => by simpa using h.dom x p e, h.low, fun x c s z o e eo => h.live x c s z o e (hg x o eo).1, fun x y c s1 z1 s2 z2 o1 o2 e1 e2 g1 g2 =>
    h.inj x y _ _ _ _ _ _ _ e1 e2 (hg x _ g1).1 (hg y _ g2).1⟩
  rw [AHeap.get_kill]
  split
  · rfl
  · exact h.fresh x (by simpa using hx)

theorem Stp.kill {γ : Pl} {H : AHeap} {w : World} {b : Nat} {p : Nat × Nat × Nat} (hb : γ b = some p) : Stp γ γ H (H.kill b) w w :=
  ⟨Ext.refl γ, fun _ _ h => .inl h, by simp, fun x e hx => by
    rw [AHeap.get_kill, if_neg]
    intro hxb
    rw [hxb, hb] at e
    exact Option.some_ne_none _ e, rfl, rfl, rfl, Nat.le_refl _, fun _ _ _ => rfl, fun x p e hx => by
    rw [AHeap.get_kill]
    split
    · rfl
    · exact hx, fun _ _ _ _ => rfl⟩

/-- A row is taken over by a new abstract block. -/
theorem Rw.take {γ : Pl} {H : AHeap} {w : World} (h : Rw γ H w) {b c s z s' : Nat} {o o0 : AObj} {ob : Obj} (hb : γ b = some (c, s, z)) (h0 : H.get b = some o0)
    (hr : objRel (γ.put H.n (c, s', z)) o s' z ob) :
    Rw (γ.put H.n (c, s', z)) ((H.kill b).push o) (w.setObj c ob) ∧ Stp γ (γ.put H.n (c, s', z)) H ((H.kill b).push o) w (w.setObj c ob) := by
  have hnone : γ H.n = none := by
    cases e : γ H.n with
    | none => rfl
    | some p => have := h.dom _ _ e; omega
  have hext := Ext.put (γ := γ) (c, s', z) hnone
  have hlt := h.dom b _ hb
  have hc := h.low b _ _ _ hb
  have hg : ∀ x, ((H.kill b).push o).get x = if x = H.n then some o else if x = b then none else H.get x := fun x => by
    rw [AHeap.get_push, AHeap.get_kill]; simp
  refine ⟨⟨fun x hx => ?_, fun x p e => ?_, fun x c s z' e => ?_, fun x c' s1 z' o' e eo => ?_, fun x y c' s1 z1 s2 z2 o1 o2 e1 e2 g1 g2 => ?_⟩,
    ⟨hext, fun x p e => ?_, by simp, fun x e hx => ?_, rfl, rfl, rfl, by simp [World.setObj], fun d hd hn => ?_, fun x p e hx => ?_, fun d hd hnc hn => ?_⟩⟩
  · simp only [AHeap.n_push, AHeap.n_kill] at hx
    rw [hg, if_neg (by omega), if_neg (by omega)]
    exact h.fresh x (by omega)
  · by_cases hx : x = H.n
    · subst hx; simp
    · rw [Pl.put_other _ _ hx] at e
      have := h.dom x p e
      simp; omega
  · rw [setObj_size]
    by_cases hx : x = H.n
    · subst hx; rw [Pl.put_same] at e; cases e; exact hc
    · rw [Pl.put_other _ _ hx] at e
      exact h.low x _ _ _ e
  · rw [hg] at eo
    by_cases hx : x = H.n
    · subst hx
      rw [Pl.put_same] at e
      cases e
      rw [if_pos rfl] at eo
      cases eo
      exact ⟨ob, by rw [setObj_get, if_pos ⟨rfl, hc⟩], hr⟩
    · rw [if_neg hx] at eo
      rw [Pl.put_other _ _ hx] at e
      by_cases hxb : x = b
      · rw [if_pos hxb] at eo; cases eo
      rw [if_neg hxb] at eo
      obtain ⟨ob', e1, e2⟩ := h.live x c' s1 z' o' e eo
      refine ⟨ob', ?_, objRel_mono hext e2⟩
      rw [setObj_get, if_neg, e1]
      rintro ⟨rfl, _⟩
      exact hxb (h.inj x b _ _ _ _ _ _ _ e hb eo h0)
  · rw [hg] at g1 g2
    by_cases hx : x = H.n
    · by_cases hy : y = H.n
      · rw [hx, hy]
      · subst hx
        rw [Pl.put_same] at e1
        rw [Pl.put_other _ _ hy] at e2
        rw [if_neg hy] at g2
        by_cases hyb : y = b
        · rw [if_pos hyb] at g2; cases g2
        rw [if_neg hyb] at g2
        cases e1
        exact absurd (h.inj y b _ _ _ _ _ _ _ e2 hb g2 h0) hyb
    · rw [if_neg hx] at g1
      rw [Pl.put_other _ _ hx] at e1
      by_cases hxb : x = b
      · rw [if_pos hxb] at g1; cases g1
      rw [if_neg hxb] at g1
      by_cases hy : y = H.n
      · subst hy
        rw [Pl.put_same] at e2
        cases e2
        exact absurd (h.inj x b _ _ _ _ _ _ _ e1 hb g1 h0) hxb
      · rw [if_neg hy] at g2
        rw [Pl.put_other _ _ hy] at e2
        by_cases hyb : y = b
        · rw [if_pos hyb] at g2; cases g2
        rw [if_neg hyb] at g2
        exact h.inj x y _ _ _ _ _ _ _ e1 e2 g1 g2
  · by_cases hx : x = H.n
    · subst hx
      rw [Pl.put_same] at e
      cases e
      exact .inr ⟨Nat.le_refl _, .inl ⟨b, _, hb, rfl, by rw [h0]; simp⟩⟩
    · rw [Pl.put_other _ _ hx] at e
      exact .inl e
  · rw [hg, if_neg (by omega), if_neg]
    rintro rfl
    rw [hb] at e; cases e
  · rw [setObj_get, if_neg]
    rintro ⟨rfl, _⟩
    exact hn b _ hb rfl
  · have := h.dom x p e
    rw [hg, if_neg (by omega)]
    split
    · rfl
    · exact hx
  · rw [setObj_get, if_neg]
    rintro ⟨rfl, _⟩
    have := hn b _ hb rfl
    rw [h0] at this
    cases this
end Go.AM
