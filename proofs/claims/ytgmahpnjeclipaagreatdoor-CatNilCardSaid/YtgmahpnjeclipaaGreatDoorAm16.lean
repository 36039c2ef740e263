/- Regions that draw their order: in every order the model comes to what AM comes to in one. No condition. -/
import Derived.Test.YtgmahpnjeclipaaGreatDoorAm15
namespace Go.AM
section
variable {P : Program}

theorem stepOp_fail (ρ : Operand → AVal) (cl : AM.Callee) (H : AHeap) : stepOp ρ cl H .fail = none := rfl

theorem compStep_op {ops : Array Oper} {o : Oper} {s : AStep} (h : compStep P ops o = some s) : s.dst = o.dst ∧ (compOp P o.op = some s.op ∨ s.op = .fail) := by
  unfold compStep at h
  have key : ∀ a : AOp, a = (compOp P o.op).getD .fail → compOp P o.op = some a ∨ a = .fail := by
    intro a ha
    cases hc : compOp P o.op with
    | none => rw [hc] at ha; exact .inr ha
    | some b => rw [hc] at ha; exact .inl (by rw [ha]; rfl)
  split at h
  · simp at h; subst h; exact ⟨rfl, key _ rfl⟩
  · split at h <;> simp at h
    subst h
    exact ⟨rfl, key _ rfl⟩

/-- What an operation gives depends on what it names alone. -/
theorem pureOp_congr {ρ ρ' : Operand → AVal} {a : AOp} (h : ∀ x ∈ a.operands, ρ x = ρ' x) : pureOp ρ a = pureOp ρ' a := by
  have hm : ∀ l : List Operand, (∀ x ∈ l, ρ x = ρ' x) → l.map ρ = l.map ρ' := fun l hl => List.map_congr_left hl
  have ho : ∀ o : Option Operand, (∀ x ∈ o.toList, ρ x = ρ' x) → o.map ρ = o.map ρ' := fun o ho => by
    cases o with
    | none => rfl
    | some x => simp [ho x (by simp)]
  have hp : ∀ ps : List (Nat × Nat × Operand), (∀ x ∈ ps.map (fun p => p.2.2), ρ x = ρ' x) →
      ps.map (fun p => (p.1, p.2.1, ρ p.2.2)) = ps.map (fun p => (p.1, p.2.1, ρ' p.2.2)) := fun ps hh =>
    List.map_congr_left fun p hpm => by rw [hh p.2.2 (List.mem_map.2 ⟨p, hpm, rfl⟩)]
  cases a <;> simp only [AOp.operands, List.mem_cons, List.mem_append, List.not_mem_nil, or_false, forall_eq_or_imp, forall_eq] at h <;> simp only [pureOp]
  case build z ps => rw [hp ps h]
  case makeFunc f l1 l2 => rw [hm l1 fun x hx => h x (.inl hx), hm l2 fun x hx => h x (.inr hx)]
  case sliceArr n st x lo hi => rw [h.1, ho lo fun x hx => h.2 x (.inl hx), ho hi fun x hx => h.2 x (.inr hx)]
  case sliceStr x lo hi => rw [h.1, ho lo fun x hx => h.2 x (.inl hx), ho hi fun x hx => h.2 x (.inr hx)]
  case slice st x lo hi mx => rw [h.1, ho lo fun x hx => h.2 x (.inl hx), ho hi fun x hx => h.2 x (.inr (.inl hx)), ho mx fun x hx => h.2 x (.inr (.inr hx))]
  case minmax mx x rest => rw [h.1, hm rest fun x hx => h.2 x hx]
  all_goals simp_all

theorem readOp_congr {ρ ρ' : Operand → AVal} {a : AOp} {H : AHeap} (h : ∀ x ∈ a.operands, ρ x = ρ' x) : readOp ρ H a = readOp ρ' H a := by
  cases a <;> simp only [AOp.operands, List.mem_cons, List.not_mem_nil, or_false, forall_eq_or_imp, forall_eq] at h <;> simp only [readOp] <;> simp_all

theorem makeOp_congr {ρ ρ' : Operand → AVal} {a : AOp} (h : ∀ x ∈ a.operands, ρ x = ρ' x) : makeOp ρ a = makeOp ρ' a := by
  have hp : ∀ ps : List (Nat × Nat × Operand), (∀ x ∈ ps.map (fun p => p.2.2), ρ x = ρ' x) →
      ps.map (fun p => (p.1, p.2.1, ρ p.2.2)) = ps.map (fun p => (p.1, p.2.1, ρ' p.2.2)) := fun ps hh =>
    List.map_congr_left fun p hpm => by rw [hh p.2.2 (List.mem_map.2 ⟨p, hpm, rfl⟩)]
  cases a <;> simp only [AOp.operands, List.mem_cons, List.not_mem_nil, or_false, forall_eq_or_imp, forall_eq] at h <;> simp only [makeOp]
  case buildSlice st len z ps => rw [hp ps h]
  all_goals simp_all

theorem effOp_congr {ρ ρ' : Operand → AVal} {a : AOp} {cl : AM.Callee} {H : AHeap} (h : ∀ x ∈ a.operands, ρ x = ρ' x) : effOp ρ cl H a = effOp ρ' cl H a := by
  have hm : ∀ l : List Operand, (∀ x ∈ l, ρ x = ρ' x) → l.map ρ = l.map ρ' := fun l hl => List.map_congr_left hl
  cases a <;> simp only [AOp.operands, List.mem_cons, List.not_mem_nil, or_false, forall_eq_or_imp, forall_eq] at h <;> simp only [effOp]
  case call f args => rw [hm args h]
  case callV x args => rw [h.1, hm args h.2]
  all_goals simp_all

/-- The operands' values, where the frame tells of them; elsewhere the model's. -/
noncomputable def own (T : Fr) (a : Act) (l : List Operand) (x : Operand) : AVal := open Classical in if x ∈ l then aeval T x else .prim (a.eval x)

theorem own_rel {γ : Pl} {T : Fr} {a : Act} {l : List Operand} (h : ∀ t, .tmp t ∈ l → rel γ (slot T t) (a.tmps.getD t undef)) (x : Operand) : rel γ (own T a l x) (a.eval x) := by
  unfold own
  split
  · rename_i hx
    exact rel_eval fun t e => h t (e ▸ hx)
  · simp [rel]

theorem own_eq {T : Fr} {a : Act} {l : List Operand} : ∀ x ∈ l, own T a l x = aeval T x := fun x hx => by simp [own, hx]

theorem mem_slots_tmp {s : AStep} {t : Nat} (h : Operand.tmp t ∈ s.op.operands) : t ∈ slotsOf s := by
  unfold slotsOf
  refine List.mem_append_right _ (List.mem_filterMap.2 ⟨_, h, rfl⟩)

theorem mem_slots_guard {s : AStep} {t : Nat} {b : Bool} (h : s.guard = some (t, b)) : t ∈ slotsOf s := by
  unfold slotsOf
  rw [h]
  simp

theorem aeval_same {T T' : Fr} {s : AStep} (h : ∀ t ∈ slotsOf s, slot T t = slot T' t) : ∀ x ∈ s.op.operands, aeval T x = aeval T' x := by
  intro x hx
  cases x with
  | tmp t => exact h t (mem_slots_tmp hx)
  | _ => rfl

theorem wanted_frame {T T' : Fr} {s : AStep} (h : ∀ t ∈ slotsOf s, slot T t = slot T' t) : wanted s.guard T = wanted s.guard T' := by
  unfold wanted
  cases hg : s.guard with
  | none => rfl
  | some tb =>
    obtain ⟨t, b⟩ := tb
    simp only
    rw [h t (mem_slots_guard hg)]

theorem entriesOf_mono {H H' : AHeap} (h : ∀ b o, H.get b = some o → H'.get b = some o) {m : AVal} {es : List (Value × AVal)} (hr : entriesOf m H = some es) : entriesOf m H' = some es := by
  unfold entriesOf at *
  split
  · exact hr
  · rename_i r
    simp only at hr
    cases hg : H.get r with
    | none => rw [hg] at hr; cases hr
    | some o => rw [h _ _ hg]; rw [hg] at hr; exact hr
  · rename_i h1 h2
    split at hr
    · exact absurd rfl h1
    · exact absurd rfl (h2 _)
    · cases hr

theorem sliceCells_mono {H H' : AHeap} (h : ∀ b o, H.get b = some o → H'.get b = some o) {x : AVal} {n : Nat} {l : List AVal} (hr : sliceCells x n H = some l) : sliceCells x n H' = some l := by
  unfold sliceCells at *
  split
  · rename_i b off len st c
    simp only at hr
    cases hg : H.get b with
    | none => rw [hg] at hr; cases hr
    | some o => rw [h _ _ hg]; rw [hg] at hr; exact hr
  · exact hr
  · rename_i h1 h2
    split at hr
    · exact absurd rfl (h1 _ _ _ _ _)
    · exact absurd rfl h2
    · cases hr

/-- Reads of a heap that has more. -/
theorem readOp_mono {H H' : AHeap} (h : ∀ b o, H.get b = some o → H'.get b = some o) {ρ : Operand → AVal} {a : AOp} {v : AVal} (hr : readOp ρ H a = some v) : readOp ρ H' a = some v := by
  cases a <;> simp only [readOp] at hr ⊢ <;> try (cases hr; done)
  case load n x =>
    generalize ρ x = y at hr ⊢
    cases y <;> simp only [aload] at hr ⊢ <;> try (cases hr; done)
    rename_i b off
    cases hg : H.get b with
    | none => rw [hg] at hr; cases hr
    | some o => rw [h _ _ hg]; rw [hg] at hr; exact hr
  case lookup str z m k ok =>
    unfold alookup at *
    cases he : entriesOf (ρ m) H with
    | none => rw [he] at hr; split at hr <;> first | (rename_i h1 h2; cases h2; done) | cases hr
    | some es => rw [entriesOf_mono h he]; rw [he] at hr; exact hr
  case toStr x =>
    unfold toStr at *
    cases he : sliceCells (ρ x) 1 H with
    | none => rw [he] at hr; cases hr
    | some l => rw [sliceCells_mono h he]; rw [he] at hr; exact hr
  case lenMap x =>
    unfold alenMap at *
    cases he : entriesOf (ρ x) H with
    | none => rw [he] at hr; cases hr
    | some es => rw [entriesOf_mono h he]; rw [he] at hr; exact hr

theorem lookOp_mono {H H' : AHeap} (h : ∀ b o, H.get b = some o → H'.get b = some o) {ρ : Operand → AVal} {a : AOp} {v : AVal} (hr : lookOp ρ H a = some v) : lookOp ρ H' a = some v := by
  unfold lookOp at *
  split
  · rename_i hk; rw [hk] at hr; exact hr
  · rename_i hk
    split at hr
    · rename_i h0; exact absurd h0 hk
    · exact readOp_mono h hr

theorem lookOp_congr {ρ ρ' : Operand → AVal} {a : AOp} {H : AHeap} (h : ∀ x ∈ a.operands, ρ x = ρ' x) : lookOp ρ H a = lookOp ρ' H a := by
  unfold lookOp
  split
  · exact pureOp_congr h
  · exact readOp_congr h

end
end Go.AM
