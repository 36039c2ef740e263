/- The run of a loop over a map. No condition but that the program draws all orders. -/
import Derived.Test.YtgmahpnjeclipaaGreatDoorMl1
namespace Go.AM
section
variable {P : Program}

theorem Rw.iter {γ : Pl} {H : AHeap} {w : World} (h : Rw γ H w) {r : Nat} (hr : ∀ b p, γ b = some p → p.1 ≠ r) (o : Obj) : Rw γ H (w.setObj r o) := by
  refine ⟨h.fresh, h.dom, fun b c s z e => by rw [setObj_size]; exact h.low b c s z e, fun b c s z ob e eo => ?_, h.inj⟩
  obtain ⟨ob', e1, e2⟩ := h.live b c s z ob e eo
  refine ⟨ob', ?_, e2⟩
  rw [setObj_get, if_neg]
  · exact e1
  · rintro ⟨rfl, _⟩
    exact hr b _ e rfl

theorem Stp.iter {γ γ' : Pl} {H H' : AHeap} {w w' : World} (h : Stp γ γ' H H' w w') {r : Nat} (hr : w.heap.size ≤ r) (o : Obj) : Stp γ γ' H H' w (w'.setObj r o) :=
  ⟨h.ext, h.img, h.hn, h.out, h.os, h.tape, h.output, by rw [setObj_size]; exact h.size, fun c hc hn => by rw [setObj_get, if_neg (by omega)]; exact h.keep c hc hn, h.dead,
    fun c hc hnc hn => by rw [setObj_get, if_neg (by omega)]; exact h.keepM c hc hnc hn⟩

/-- The value of a slot that holds an iterator. -/
def itv (r : Nat) : AVal := .prim (.pointer (some ⟨r, 0, none⟩))

/-- What holds ahead of a round: so many entries, by their places, have come; the rest are to come. -/
def LoopSt {N : Nat} {body : Code} (L : MapLoop P N body) (I : List (Value × AVal) → Fr → AHeap → Prop) (γb : Pl) (Hb : AHeap) (wb : World) (γs : Pl) (r c clock : Nat) (es : List (Value × AVal)) (ents : Array MapEntry)
    (N0 : Nat) (df0 : List Deferred) (js rs : List Nat) (a : Act) (w : World) : Prop :=
  ∃ T H γ seen c0, (js ++ rs).Perm (List.range ents.size) ∧ a.tmps.size = N0 ∧ a.defers = df0 ∧ FrRel γ T a ∧ Rw γ H w ∧ Stp γb γ Hb H wb w ∧ Ext γs γ ∧ I (js.map fun j => es.getD j (undef, unit)) T H ∧ slot T L.it = itv r ∧
    w.heap[r]? = some (.mapIter (some c) clock seen c0) ∧ clock ≤ c0 ∧ seen.toList = js.map (fun j => (ents[j]?.map (·.born)).getD 0) ∧ w.heap[c]? = some (.map ents clock) ∧
    (∀ b p, γ b = some p → p.1 ≠ r) ∧ (∀ b p, γ b = some p → p.1 = c → H.get b = none)

/-- What is so behind the loop. -/
def LoopEnd {N : Nat} {body : Code} (L : MapLoop P N body) (I : List (Value × AVal) → Fr → AHeap → Prop) (γb : Pl) (Hb : AHeap) (wb : World) (γs : Pl) (r c clock : Nat) (es : List (Value × AVal)) (ents : Array MapEntry)
    (N0 : Nat) (df0 : List Deferred) (a : Act) (w : World) : Prop :=
  ∃ T H γ d, d.Perm es ∧ I d T H ∧ slot T L.it = itv r ∧ FrRel γ (L.off T) a ∧ Rw γ H w ∧ Stp γb γ Hb H wb w ∧ w.heap[c]? = some (.map ents clock) ∧ (∀ b p, γ b = some p → p.1 = c → H.get b = none) ∧ Ext γs γ ∧
    a.tmps.size = N0 ∧ a.defers = df0

theorem perm_get {es : List (Value × AVal)} {n : Nat} (h : es.length = n) : ((List.range n).map fun j => es.getD j (undef, unit)) = es := by
  subst h
  refine List.ext_getElem? fun i => ?_
  simp only [List.getElem?_map]
  rcases Nat.lt_or_ge i es.length with hi | hi
  · rw [List.getElem?_range hi, Option.map_some, List.getElem?_eq_getElem hi, List.getD_eq_getElem?_getD, List.getElem?_eq_getElem hi]
    rfl
  · rw [List.getElem?_eq_none (by simpa using hi), List.getElem?_eq_none hi]
    rfl

variable {N : Nat} {body : Code} {L : MapLoop P N body} {I : List (Value × AVal) → Fr → AHeap → Prop} {γb : Pl} {Hb : AHeap} {wb : World} {γs : Pl} {r c clock : Nat} {es : List (Value × AVal)} {ents : Array MapEntry}
  {N0 : Nat} {df0 : List Deferred}

theorem LoopSt.step (hm : P.follows .mixedOrders = true) {eqv : Eqv} (heqv : ∀ v w, eqv v w = true → v = w) {cl : AM.Callee} (hcl : CalleeOk P cl) (hN : N ≤ N0) (hrb : wb.heap.size ≤ r) (hrc : r ≠ c)
    (hlen : es.length = ents.size) (hold : ∀ (i : Nat) (en : MapEntry), ents[i]? = some en → en.born < clock)
    (hinc : ∀ (i j : Nat) (en em : MapEntry), i < j → ents[i]? = some en → ents[j]? = some em → en.born < em.born)
    (hes : ∀ (i : Nat) (k : Value) (v : AVal), es[i]? = some (k, v) → ∃ en, ents[i]? = some en ∧ en.key = k ∧ rel γs v en.val)
    (hI : ∀ d k v rest T H, (d ++ (k, v) :: rest).Perm es → I d T H → slot T L.it = itv r →
      Run eqv cl (.seq (.ops L.s6) L.ac) (L.at T k v) H fun e T' H' => e = .normal ∧ I (d ++ [(k, v)]) T' H' ∧ slot T' L.it = itv r)
    {Q : Exit → Act → World → Prop} {K : Act → World → Prop} {js rs : List Nat} {a : Act} {w : World} (h : LoopSt L I γb Hb wb γs r c clock es ents N0 df0 js rs a w)
    (hK : ∀ j a' w', j ∈ rs → LoopSt L I γb Hb wb γs r c clock es ents N0 df0 (js ++ [j]) (rs.erase j) a' w' → K a' w')
    (hQ : ∀ a' w', LoopEnd L I γb Hb wb γs r c clock es ents N0 df0 a' w' → Q .normal a' w') :
    body.wp P (Exit.then K (Exit.inBlock L.b0 Q)) a w := by
  obtain ⟨T, H, γ, seen, c0, hp, hsz, hdf, hfr, hw, hst, hext, hId, hit, hr, hcc, hseen, hc, hnr, hdead⟩ := h
  have hbn := born_nodup hinc
  have hold' : ∀ x ∈ ents.toList, x.born < clock := fun x hx => by
    obtain ⟨i, hi, e⟩ := List.getElem_of_mem hx
    exact hold i x (by rw [← e]; simp at hi; simp [hi])
  obtain ⟨lt1, lt2, lt3⟩ := L.lt
  obtain ⟨ne1, ne2, ne3, ne4⟩ := L.ne
  have hitv : a.eval (.tmp L.it) = .pointer (some ⟨r, 0, none⟩) := by
    have := hfr.eval (.tmp L.it)
    simp only [aeval, hit, itv, rel_prim] at this
    exact this
  have hnd : (js ++ rs).Nodup := hp.nodup_iff.2 List.nodup_range
  have hmem : ∀ j, j < ents.size ↔ j ∈ js ∨ j ∈ rs := fun j => by
    rw [← List.mem_range, ← hp.mem_iff, List.mem_append]
  have hborn : ∀ j, j ∈ js → ∀ en, ents[j]? = some en → seen.contains en.born = true := fun j hj en he => by
    rw [← Array.contains_toList, hseen, List.contains_iff_mem, List.mem_map]
    exact ⟨j, hj, by rw [he]; rfl⟩
  have hnborn : ∀ j, j ∈ rs → ∀ en, ents[j]? = some en → seen.contains en.born = false := fun j hj en he => by
    cases hcon : seen.contains en.born with
    | false => rfl
    | true =>
      rw [← Array.contains_toList, hseen, List.contains_iff_mem, List.mem_map] at hcon
      obtain ⟨i, hi, e⟩ := hcon
      have hil : i < ents.size := (hmem i).2 (.inl hi)
      rw [Array.getElem?_eq_getElem hil] at e
      have := born_inj hinc (Array.getElem?_eq_getElem hil) he e
      subst this
      exact absurd rfl ((List.nodup_append.1 hnd).2.2 i hi i hj)
  refine (congrArg (fun b => Code.wp P b (Exit.then K (Exit.inBlock L.b0 Q)) a w) L.shape).mpr ?_
  refine wp_seq (wp_region_list ?_)
  rw [L.h5]
  have hxn : ∀ v' w', (Instr.next (.pointer (some ⟨r, 0, none⟩)) false L.next.type).run P w = .ok v' w' → (execOp a.eval L.next).run P w = .ok (.value v') w' := fun v' w' e => by
    simp [execOp, L.n1, hitv, e]
  rcases next_any (P := P) hr hc hold' hcc L.next.type with ⟨h0, hrun⟩ | ⟨e, he, w1, hw1, hrun⟩
  · refine wpList_value L.n3 (hxn _ _ hrun) ?_
    have hf1 : FrRel γ (aput T (some L.t1) (.tuple [.prim (.bool false)])) (a.put L.next.dst (.tuple #[.bool false])) := by
      rw [L.n2]
      refine hfr.put (fun d hd => by cases hd; omega) ?_
      simp only [rel]
      exact ⟨_, rfl, rfl, trivial⟩
    refine wpList_value (v' := .bool false) (w' := w) L.x3 ?_ ?_
    · have : (a.put L.next.dst (.tuple #[.bool false])).eval (.tmp L.t1) = .tuple #[.bool false] := by
        show (a.put L.next.dst (.tuple #[.bool false])).tmps.getD L.t1 undef = _
        rw [L.n2, put_getD a (by omega), if_pos rfl]
      simp [execOp, L.x1, this, Instr.extract]
    · have hf2 : FrRel γ (L.off T) ((a.put L.next.dst (.tuple #[.bool false])).put L.ext.dst (.bool false)) := by
        rw [L.x2]
        exact hf1.put (fun d hd => by cases hd; rw [put_size]; omega) (by simp [rel_prim])
      refine wp_seq ?_
      have hcond : ((a.put L.next.dst (.tuple #[.bool false])).put L.ext.dst (.bool false)).eval (.tmp L.t2) = .bool false := by
        show ((a.put L.next.dst (.tuple #[.bool false])).put L.ext.dst (.bool false)).tmps.getD L.t2 undef = _
        rw [L.x2, put_getD _ (by rw [put_size]; omega), if_pos rfl]
      refine wp_cond_false hcond (wp_exit ?_)
      show Exit.inBlock L.b0 Q (.exit L.b0) _ _
      simp only [Exit.inBlock, if_true]
      have hrs : rs = [] := by
        cases rs with
        | nil => rfl
        | cons j rs =>
          have hj : j < ents.size := (hmem j).2 (.inr (by simp))
          have := hnborn j (by simp) _ (Array.getElem?_eq_getElem hj)
          have hin : ents[j] ∈ (leftOf ents seen) := Array.mem_filter.2 ⟨Array.getElem_mem hj, by rw [this]; rfl⟩
          have := Array.size_pos_of_mem hin
          omega
      subst hrs
      rw [List.append_nil] at hp
      refine hQ _ _ ⟨T, H, γ, _, ?_, hId, hit, hf2, hw, hst, hc, hdead, hext, by rw [put_size, put_size, hsz], by cases L.next.dst <;> cases L.ext.dst <;> exact hdf⟩
      have := hp.map fun j => es.getD j (undef, unit)
      rwa [perm_get hlen] at this
  · obtain ⟨he1, he2⟩ := mem_left he
    obtain ⟨j, hj, hje⟩ := List.getElem_of_mem he1
    simp only [Array.length_toList] at hj
    have hent : ents[j]? = some e := by rw [← hje]; simp [hj]
    have hjr : j ∈ rs := by
      rcases (hmem j).1 hj with h1 | h1
      · rw [hborn j h1 e hent] at he2; cases he2
      · exact h1
    have hesj : ∃ k v, es[j]? = some (k, v) := ⟨_, _, List.getElem?_eq_getElem (by omega)⟩
    obtain ⟨k, v, hkv⟩ := hesj
    obtain ⟨en, g1, g2, g3⟩ := hes j k v hkv
    rw [hent] at g1
    cases g1
    subst g2
    have hrel := rel_mono hext _ _ g3
    -- the world behind the step
    have hw1h : w1.heap = w.heap := by rcases hw1 with rfl | rfl <;> rfl
    have hrw1 : Rw γ H w1 := hw.of_heap hw1h
    have hst1 : Stp γb γ Hb H wb w1 := by
      rcases hw1 with rfl | rfl
      · exact hst
      · exact hst.trans (Stp.drew _ _ _)
    have hrlt : r < w.heap.size := (Array.getElem?_eq_some_iff.1 hr).1
    have hclt : c < w.heap.size := (Array.getElem?_eq_some_iff.1 hc).1
    generalize hw2 : w1.setObj r (.mapIter (some c) clock (seen.push e.born) clock) = w2 at *
    have hrw2 : Rw γ H w2 := by rw [← hw2]; exact hrw1.iter hnr _
    have hst2 : Stp γb γ Hb H wb w2 := by rw [← hw2]; exact hst1.iter hrb _
    have hr2 : w2.heap[r]? = some (.mapIter (some c) clock (seen.push e.born) clock) := by rw [← hw2, setObj_get, if_pos ⟨rfl, by rw [hw1h]; exact hrlt⟩]
    have hc2 : w2.heap[c]? = some (.map ents clock) := by rw [← hw2, setObj_get, if_neg (fun h => hrc h.1.symm), hw1h]; exact hc
    refine wpList_value L.n3 (hxn _ _ hrun) ?_
    have hf1 : FrRel γ (aput T (some L.t1) (.tuple [.prim (.bool true), .prim e.key, v])) (a.put L.next.dst (.tuple #[.bool true, e.key, e.val])) := by
      rw [L.n2]
      refine hfr.put (fun d hd => by cases hd; omega) ?_
      simp only [rel]
      exact ⟨_, rfl, rfl, rfl, hrel, trivial⟩
    refine wpList_value (v' := .bool true) (w' := w2) L.x3 ?_ ?_
    · have : (a.put L.next.dst (.tuple #[.bool true, e.key, e.val])).eval (.tmp L.t1) = .tuple #[.bool true, e.key, e.val] := by
        show (a.put L.next.dst (.tuple #[.bool true, e.key, e.val])).tmps.getD L.t1 undef = _
        rw [L.n2, put_getD a (by omega), if_pos rfl]
      simp [execOp, L.x1, this, Instr.extract]
    have hf2 : FrRel γ (aput (aput T (some L.t1) (.tuple [.prim (.bool true), .prim e.key, v])) (some L.t2) (.prim (.bool true))) ((a.put L.next.dst (.tuple #[.bool true, e.key, e.val])).put L.ext.dst (.bool true)) := by
      rw [L.x2]
      exact hf1.put (fun d hd => by cases hd; rw [put_size]; omega) (by simp [rel_prim])
    have hsz2 : ((a.put L.next.dst (.tuple #[.bool true, e.key, e.val])).put L.ext.dst (.bool true)).tmps.size = N0 := by rw [put_size, put_size, hsz]
    have hdf2 : ((a.put L.next.dst (.tuple #[.bool true, e.key, e.val])).put L.ext.dst (.bool true)).defers = df0 := by cases L.next.dst <;> cases L.ext.dst <;> exact hdf
    have hcond : ((a.put L.next.dst (.tuple #[.bool true, e.key, e.val])).put L.ext.dst (.bool true)).eval (.tmp L.t2) = .bool true := by
      show ((a.put L.next.dst (.tuple #[.bool true, e.key, e.val])).put L.ext.dst (.bool true)).tmps.getD L.t2 undef = _
      rw [L.x2, put_getD _ (by rw [put_size]; omega), if_pos rfl]
    have hit2 : ((a.put L.next.dst (.tuple #[.bool true, e.key, e.val])).put L.ext.dst (.bool true)).eval (.tmp L.it) = .pointer (some ⟨r, 0, none⟩) := by
      show ((a.put L.next.dst (.tuple #[.bool true, e.key, e.val])).put L.ext.dst (.bool true)).tmps.getD L.it undef = _
      rw [L.x2, put_getD _ (by rw [put_size]; omega), if_neg ne2, L.n2, put_getD _ (by omega), if_neg ne1]
      exact hitv
    generalize hA : (a.put L.next.dst (.tuple #[.bool true, e.key, e.val])).put L.ext.dst (.bool true) = A at *
    refine wp_seq (wp_cond_true hcond (wp_skip ?_))
    show Code.wp P (.block L.b1 (.seq (.region L.id6 L.ops6 false) L.B)) _ A w2
    refine wp_block (wp_seq (wp_region_list ?_))
    rw [L.h6]
    have hxe : (execOp A.eval L.ent).run P w2 = .ok (.value (.tuple #[e.key, e.val])) w2 := by
      simp [execOp, L.e1, hit2, entry_any (P := P) hr2 hc2 he1 hbn]
    refine wpList_value L.e3 hxe ?_
    have hf3 : FrRel γ (L.at T e.key v) (A.put L.ent.dst (.tuple #[e.key, e.val])) := by
      rw [L.e2]
      refine hf2.put (fun d hd => by cases hd; omega) ?_
      simp only [rel]
      exact ⟨_, rfl, rfl, hrel, trivial⟩
    -- the rest of the round
    have hprs := List.perm_cons_erase hjr
    have hp2 : ((js ++ [j]) ++ rs.erase j).Perm (List.range ents.size) := by
      rw [List.append_assoc]
      exact (hprs.symm.append_left js).trans hp
    have hgetj : es.getD j (undef, unit) = (e.key, v) := by rw [List.getD_eq_getElem?_getD, hkv]; rfl
    have hperm : (js.map (fun j => es.getD j (undef, unit)) ++ (e.key, v) :: (rs.erase j).map fun j => es.getD j (undef, unit)).Perm es := by
      have := hp2.map fun j => es.getD j (undef, unit)
      rw [perm_get hlen, List.map_append, List.map_append, List.append_assoc] at this
      simpa only [List.map_cons, List.map_nil, hgetj, List.singleton_append] using this
    have hrun2 := hI _ _ _ _ T H hperm hId hit
    rw [Run_seq, Run_ops] at hrun2
    have hsz3 : (A.put L.ent.dst (.tuple #[e.key, e.val])).tmps.size = N0 := by rw [put_size, hsz2]
    cases hst6 : runSteps cl L.s6 (L.at T e.key v) H with
    | none => rw [hst6] at hrun2; exact hrun2.elim
    | some q =>
      obtain ⟨T6, H6⟩ := q
      rw [hst6] at hrun2
      obtain ⟨k7, e7, T7, H7, hex, he7, hI7, hit7⟩ := hrun2
      subst he7
      refine steps_wp hcl L.rest L.s6 L.hs hst6 hrw2 hf3 (fun o ho d hdd => ?_) fun a6 w6 hf6 => ?_
      · have := L.hd
        rw [List.all_eq_true] at this
        have := this o ho
        rw [hdd] at this
        have h1 : d < N := by simpa using this
        exact Nat.lt_of_lt_of_le h1 (by omega)
      obtain ⟨γ6, k1, k2, k3, k4, k5⟩ := hf6
      show Code.wp P L.B _ a6 w6
      refine (exec_wp hm heqv hcl k7).1 L.B L.ac T6 H6 γ6 a6 w6 .normal T7 H7 _ L.hc L.hb (by omega) hex k2 k1 fun a7 w7 hf7 => ?_
      obtain ⟨γ7, m1, m2, m3, m4, m5⟩ := hf7
      have hstt := k3.trans m3
      show K a7 w7
      refine hK j a7 w7 hjr ⟨T7, H7, γ7, seen.push e.born, clock, hp2, by omega, by rw [m5, k5]; cases L.ent.dst <;> exact hdf2, m1, m2, hst2.trans hstt, hext.trans hstt.ext, ?_, hit7, ?_, Nat.le_refl _, ?_, ?_, ?_, ?_⟩
      · rw [List.map_append, List.map_cons, List.map_nil, hgetj]; exact hI7
      · rw [hstt.keep r (by rw [← hw2, setObj_size, hw1h]; exact hrlt) hnr]; exact hr2
      · rw [Array.toList_push, hseen, List.map_append, List.map_cons, List.map_nil, hent]; rfl
      · rw [hstt.keepM c (by rw [← hw2, setObj_size, hw1h]; exact hclt) (by rw [hc2]; simp) hdead]; exact hc2
      · intro b p hb
        rcases hstt.img b p hb with h1 | ⟨_, h1⟩
        · exact hnr b p h1
        · rcases h1 with ⟨b0, q, q1, q2, _⟩ | h1
          · rw [← q2]; exact hnr b0 q q1
          · have : r < w2.heap.size := by rw [← hw2, setObj_size, hw1h]; exact hrlt
            omega
      · intro b p hb hpc
        rcases hstt.img b p hb with h1 | ⟨_, h1⟩
        · exact hstt.dead b p h1 (hdead b p h1 hpc)
        · rcases h1 with ⟨b0, q, q1, q2, q3⟩ | h1
          · exact absurd (hdead b0 q q1 (q2.trans hpc)) q3
          · have : c < w2.heap.size := by rw [← hw2, setObj_size, hw1h]; exact hclt
            omega

theorem LoopSt.rounds (hm : P.follows .mixedOrders = true) {eqv : Eqv} (heqv : ∀ v w, eqv v w = true → v = w) {cl : AM.Callee} (hcl : CalleeOk P cl) (hN : N ≤ N0) (hrb : wb.heap.size ≤ r) (hrc : r ≠ c)
    (hlen : es.length = ents.size) (hold : ∀ (i : Nat) (en : MapEntry), ents[i]? = some en → en.born < clock)
    (hinc : ∀ (i j : Nat) (en em : MapEntry), i < j → ents[i]? = some en → ents[j]? = some em → en.born < em.born)
    (hes : ∀ (i : Nat) (k : Value) (v : AVal), es[i]? = some (k, v) → ∃ en, ents[i]? = some en ∧ en.key = k ∧ rel γs v en.val)
    (hI : ∀ d k v rest T H, (d ++ (k, v) :: rest).Perm es → I d T H → slot T L.it = itv r →
      Run eqv cl (.seq (.ops L.s6) L.ac) (L.at T k v) H fun e T' H' => e = .normal ∧ I (d ++ [(k, v)]) T' H' ∧ slot T' L.it = itv r)
    {Q : Exit → Act → World → Prop} (hQ : ∀ a' w', LoopEnd L I γb Hb wb γs r c clock es ents N0 df0 a' w' → Q .normal a' w') :
    ∀ (n : Nat) {js rs : List Nat} {a : Act} {w : World}, rs.length = n → LoopSt L I γb Hb wb γs r c clock es ents N0 df0 js rs a w → Code.rounds P body (Exit.inBlock L.b0 Q) (n + 1) a w
  | 0, js, rs, a, w, hn, h => by
    rw [rounds_succ]
    refine h.step hm heqv hcl hN hrb hrc hlen hold hinc hes hI (fun j a' w' hj _ => ?_) hQ
    rw [List.length_eq_zero_iff.1 hn] at hj
    cases hj
  | n + 1, js, rs, a, w, hn, h => by
    rw [rounds_succ]
    refine h.step hm heqv hcl hN hrb hrc hlen hold hinc hes hI (fun j a' w' hj h' => ?_) hQ
    exact LoopSt.rounds hm heqv hcl hN hrb hrc hlen hold hinc hes hI hQ n (by rw [List.length_erase_of_mem hj]; omega) h'

/-- A loop over a map whose block is 'm' in the abstract heap; the iterator is new. -/
theorem MapLoop.wp (hm : P.follows .mixedOrders = true) {eqv : Eqv} (heqv : ∀ v w, eqv v w = true → v = w) {cl : AM.Callee} (hcl : CalleeOk P cl) (L : MapLoop P N body) {rg : Oper} {x : Nat} {ty kt et : TypeId}
    (hd : P.underlying ty = some (.map kt et)) (hr1 : rg.op = .range ty (.tmp x)) (hr2 : rg.dst = some L.it) (hr3 : rg.guard = none) (hit : L.it < N)
    {T : Fr} {H : AHeap} {γ : Pl} {a : Act} {w : World} (hN : N ≤ a.tmps.size) (hfr : FrRel γ T a) (hw : Rw γ H w) {m : Nat} {es : List (Value × AVal)} (hx : slot T x = .map m) (hes : H.get m = some (.map es))
    {I : List (Value × AVal) → Fr → AHeap → Prop} (hI0 : ∀ r, I [] (aput T (some L.it) (itv r)) (H.kill m))
    (hI : ∀ r d k v rest T H, (d ++ (k, v) :: rest).Perm es → I d T H → slot T L.it = itv r →
      Run eqv cl (.seq (.ops L.s6) L.ac) (L.at T k v) H fun e T' H' => e = .normal ∧ I (d ++ [(k, v)]) T' H' ∧ slot T' L.it = itv r)
    {ops : Array Oper} {Q : Exit → Act → World → Prop} (hQ : ∀ (T' : Fr) (H' : AHeap) (d : List (Value × AVal)) (r : Nat) (a' : Act) (w' : World), d.Perm es → I d T' H' → slot T' L.it = itv r →
      Fin γ H w a (L.off T') (H'.set m (.map es)) a' w' → Q .normal a' w') :
    wpList P ops (Exit.then (Code.wp P (.block L.b0 (.loop body)) Q) Q) [rg] a w := by
  have hxv := hfr.eval (.tmp x)
  simp only [aeval, hx, rel] at hxv
  obtain ⟨c, s, z, hγ, hxv⟩ := hxv
  obtain ⟨ob, hob, ents, clock, rfl, hlen, hents, hold, hinc⟩ := hw.live m c s z _ hγ hes
  have hgo := getObj_ok (P := P) hob (by simp)
  have hclt := hw.low m c s z hγ
  refine wpList_value (v' := .pointer (some ⟨w.heap.size, 0, none⟩)) (w' := w.alloc (.mapIter (some c) clock #[] clock)) hr3 ?_ ?_
  · simp [execOp, hr1, hxv, Instr.range, und_run hd, hgo]
  show Code.wp P (.block L.b0 (.loop body)) Q _ _
  refine wp_block (wp_loop_rounds (ents.size + 1) ?_)
  have hold1 : ∀ d, d < w.heap.size → (w.alloc (.mapIter (some c) clock #[] clock)).heap[d]? = w.heap[d]? := fun d hd => heap_alloc_old w _ hd
  have hrw1 : Rw γ H (w.alloc (.mapIter (some c) clock #[] clock)) := by
    refine ⟨hw.fresh, hw.dom, fun b c' s' z' e => ?_, fun b c' s' z' o e eo => ?_, hw.inj⟩
    · have := hw.low b c' s' z' e
      show c' < (w.heap.push _).size
      rw [Array.size_push]; omega
    · obtain ⟨ob, h1, h2⟩ := hw.live b c' s' z' o e eo
      exact ⟨ob, by rw [hold1 _ (hw.low b c' s' z' e)]; exact h1, h2⟩
  have hst1 : Stp γ γ H H w (w.alloc (.mapIter (some c) clock #[] clock)) :=
    ⟨Ext.refl γ, fun _ _ h => .inl h, Nat.le_refl _, fun _ _ _ => rfl, rfl, rfl, rfl, by show _ ≤ (w.heap.push _).size; rw [Array.size_push]; omega, fun d hd _ => hold1 d hd, fun _ _ _ h => h, fun d hd _ _ => hold1 d hd⟩
  have hdead : ∀ b p, γ b = some p → p.1 = c → (H.kill m).get b = none := fun b p e hp => by
    rw [AHeap.get_kill]
    split
    · rfl
    · rename_i hne
      cases hg : H.get b with
      | none => rfl
      | some o =>
        obtain ⟨c', s', z'⟩ := p
        simp only at hp
        subst hp
        exact absurd (hw.inj b m _ _ _ _ _ _ _ e hγ hg hes) hne
  have hlow : ∀ b p, γ b = some p → p.1 ≠ w.heap.size := fun b p e => by
    obtain ⟨c', s', z'⟩ := p
    have := hw.low b c' s' z' e
    simp only; omega
  have hfr1 : FrRel γ (aput T (some L.it) (itv w.heap.size)) (a.put rg.dst (.pointer (some ⟨w.heap.size, 0, none⟩))) := by
    rw [hr2]
    exact hfr.put (fun d hd => by cases hd; omega) (by simp [itv, rel_prim])
  have hst : LoopSt L I γ (H.kill m) w γ w.heap.size c clock es ents a.tmps.size a.defers [] (List.range ents.size) (a.put rg.dst (.pointer (some ⟨w.heap.size, 0, none⟩))) (w.alloc (.mapIter (some c) clock #[] clock)) :=
    ⟨_, _, γ, #[], clock, by simp, by rw [put_size], by cases rg.dst <;> rfl, hfr1, hrw1.kill m, ⟨Ext.refl γ, fun _ _ h => .inl h, Nat.le_refl _, fun _ _ _ => rfl, rfl, rfl, rfl, hst1.size, hst1.keep, fun _ _ _ h => h, fun d hd _ _ => hold1 d hd⟩,
      Ext.refl γ, hI0 _, by simp only [slot_aput, if_true], heap_alloc_new w _, Nat.le_refl _, by simp, by rw [hold1 c hclt]; exact hob, hlow, hdead⟩
  refine LoopSt.rounds hm heqv hcl hN (Nat.le_refl _) (by omega) hlen hold hinc hents (hI _) (fun a' w' he => ?_) ents.size (by simp) hst
  obtain ⟨T', H', γ', d, p1, p2, p3, p4, p5, p6, p7, p8, p9, p10, p11⟩ := he
  refine hQ T' H' d _ a' w' p1 p2 p3 ⟨γ', p4, ?_, Stp.again hγ hes p6, p10, p11⟩
  exact p5.again (p9 m _ hγ) p7 (objRel_mono p9 ⟨ents, clock, rfl, hlen, hents, hold, hinc⟩) p8
end
end Go.AM
