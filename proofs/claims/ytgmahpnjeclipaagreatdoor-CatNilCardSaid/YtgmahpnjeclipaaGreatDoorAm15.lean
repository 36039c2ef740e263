/- One step of the machine: what AM does the model does. No condition. -/
import Derived.Test.YtgmahpnjeclipaaGreatDoorAm14
import Derived.Tactics
namespace Go.AM
section
variable {P : Program}

/-- A call of the model: it comes back with a value. -/
def Back (P : Program) (R : Value → World → Prop) : Result Next → Prop
  | .ok (.value v) w' => R v w'
  | .ok .skip w' => R undef w'
  | .ok (.enter g as) w' => Calls P g as w' fun e w'' => match e with | .returned v => R v w'' | _ => False
  | _ => False

theorem Back.mono {R R' : Value → World → Prop} (h : ∀ v w, R v w → R' v w) : ∀ {r : Result Next}, Back P R r → Back P R' r
  | .ok n w, hb => by
    cases n <;> simp only [Back] at hb ⊢ <;> first | exact h _ _ hb | exact Calls.mono hb (fun e w' he => by cases e <;> first | exact h _ _ he | exact he) | exact hb
  | .halt x w, hb => by simp only [Back] at hb

theorem Back.wp {o : Oper} {a : Act} {w : World} {R : Value → World → Prop} (h : Back P R ((execOp a.eval o).run P w)) {K : Act → World → Prop} {Q : Exit → Act → World → Prop}
    (hk : ∀ v w', R v w' → K (a.put o.dst v) w') : o.wp P a w K Q := by
  unfold Oper.wp
  generalize (execOp a.eval o).run P w = r at h ⊢
  cases r with
  | halt x w' => simp only [Back] at h
  | ok n w' =>
    cases n <;> simp only [Back] at h <;> simp only [Oper.upon] <;> first | exact hk _ _ h | skip
    exact Calls.mono h fun e w'' he => by
      cases e with
      | returned v => exact hk _ _ he
      | panicked c => exact he.elim
      | outgrown => exact he.elim

/-- What a step leaves. -/
def Post (γ : Pl) (H H' : AHeap) (v : AVal) (w : World) (v' : Value) (w' : World) : Prop :=
  ∃ γ', rel γ' v v' ∧ Rw γ' H' w' ∧ Stp γ γ' H H' w w'

/-- What the callees do the model's functions do. -/
def CalleeOk (P : Program) (cl : AM.Callee) : Prop :=
  ∀ f args H v H', cl f args H = some (v, H') → ∀ γ w (args' : Array Value), Rw γ H w → rels γ args args'.toList →
    Back P (Post γ H H' v w) ((callFunc f args').run P w)

theorem same_inv {o : Op} {x : Operand} (h : compOp P o = some (.same x)) :
    ∃ src e, o = .convert src src x ∧ P.underlying src = some (.slice e) ∧ P.underlying e = some (.int .u8) := by
  cases o <;> simp only [compOp] at h <;> try (cases h; done)
  case convert src dst y =>
    split at h <;> try (cases h; done)
    · split at h <;> cases h
    · split at h <;> cases h
    · rename_i e e' hs hd
      split at h <;> try (cases h; done)
      rename_i he
      split at h <;> simp at h
      rename_i hsd
      subst h
      subst hsd
      exact ⟨src, e, rfl, hs, he⟩
  case makeFunc fn first caps => cases fn <;> simp at h
  case makeMap t r => cases r <;> simp at h
  case call c =>
    unfold compCall at h
    (repeat' split at h)
    all_goals first
      | (cases h; done)
      | (obtain ⟨_, _, hh⟩ := Option.map_eq_some_iff.1 h; cases hh; done)
      | (simp at h; done)
  all_goals
    (repeat' split at h)
    all_goals first
      | (cases h; done)
      | (obtain ⟨_, _, hh⟩ := Option.map_eq_some_iff.1 h; cases hh; done)
      | (simp at h; done)

/-- An operation that leaves the abstract heap as it is. -/
def lookOp (ρ : Operand → AVal) (H : AHeap) (a : AOp) : Option AVal :=
  match a.kind with
  | 0 => pureOp ρ a
  | _ => readOp ρ H a

theorem look_run {γ : Pl} {H : AHeap} {w : World} (hw : Rw γ H w) {ρ : Operand → AVal} {ρ' : Operand → Value} (hρ : ∀ x, rel γ (ρ x) (ρ' x)) {o : Oper} {a : AOp}
    (hc : compOp P o.op = some a) (hk : a.kind = 0 ∨ a.kind = 1) {v : AVal} (h : lookOp ρ H a = some v) :
    ∃ v' w', (execOp ρ' o).run P w = .ok (.value v') w' ∧ rel γ v v' ∧ Rw γ H w' ∧ Stp γ γ H H w w' := by
  unfold lookOp at h
  rcases hk with hk | hk
  · rw [hk] at h
    by_cases hs : ∀ x, a ≠ .same x
    · obtain ⟨v', e, r⟩ := pure_run hρ hc hk hs h w
      exact ⟨v', w, e, r, hw, Stp.refl _ _ _⟩
    · have hs' : ∃ x, a = .same x := by
        refine Classical.byContradiction fun hn => hs fun x e => hn ⟨x, e⟩
      obtain ⟨x, rfl⟩ := hs'
      obtain ⟨src, e, ho, h1, h2⟩ := same_inv hc
      obtain ⟨v', w', g1, g2, g3, g4⟩ := same_run (P := P) hw h1 h2 (hρ x) h
      refine ⟨v', w', ?_, g2, g3, g4⟩
      simp [execOp, ho, g1]
  · rw [hk] at h
    obtain ⟨v', e, r⟩ := read_run hw hρ hc hk h
    exact ⟨v', w, e, r, hw, Stp.refl _ _ _⟩

/-- A make, of a block that the abstract heap has, and of whose place nothing is told yet. -/
theorem Rw.put {γ : Pl} {H : AHeap} {w w' : World} (h : Rw γ H w) {b : Nat} {o : AObj} {ob : Obj} {z : Nat} (hb : γ b = none) (ho : H.get b = some o)
    (hh : w'.heap = w.heap.push ob) (_ : w'.os = w.os) (_ : w'.tape = w.tape) (_ : w'.output = w.output)
    (hr : objRel (γ.put b (w.heap.size, 0, z)) o 0 z ob) : Rw (γ.put b (w.heap.size, 0, z)) H w' := by
  have hbn : b < H.n := by
    rcases Nat.lt_or_ge b H.n with h1 | h1
    · exact h1
    · rw [h.fresh b h1] at ho; cases ho
  have hext := Ext.put (γ := γ) (w.heap.size, 0, z) hb
  have hold : ∀ c, c < w.heap.size → w'.heap[c]? = w.heap[c]? := fun c hc => by
    rw [hh, Array.getElem?_push, if_neg (by omega)]
  have hsz : w'.heap.size = w.heap.size + 1 := by rw [hh, Array.size_push]
  refine ⟨h.fresh, fun x p e => ?_, fun x c s z' e => ?_, fun x c' s' z' o' e eo => ?_, fun x y c' s1 z1 s2 z2 o1 o2 e1 e2 g1 g2 => ?_⟩
  · by_cases hx : x = b
    · subst hx; exact hbn
    · rw [Pl.put_other _ _ hx] at e; exact h.dom x p e
  · by_cases hx : x = b
    · subst hx; rw [Pl.put_same] at e; cases e; omega
    · rw [Pl.put_other _ _ hx] at e
      have := h.low x _ _ _ e
      omega
  · by_cases hx : x = b
    · subst hx
      rw [Pl.put_same] at e
      cases e
      rw [ho] at eo
      cases eo
      exact ⟨ob, by rw [hh]; simp, hr⟩
    · rw [Pl.put_other _ _ hx] at e
      obtain ⟨ob', q1, q2⟩ := h.live x c' s' z' o' e eo
      exact ⟨ob', by rw [hold _ (h.low x _ _ _ e)]; exact q1, objRel_mono hext q2⟩
  · by_cases hx : x = b
    · subst hx
      rw [Pl.put_same] at e1
      cases e1
      by_cases hy : y = x
      · exact hy.symm
      · rw [Pl.put_other _ _ hy] at e2
        have := h.low y _ _ _ e2
        omega
    · rw [Pl.put_other _ _ hx] at e1
      by_cases hy : y = b
      · subst hy
        rw [Pl.put_same] at e2
        cases e2
        have := h.low x _ _ _ e1
        omega
      · rw [Pl.put_other _ _ hy] at e2
        exact h.inj x y _ _ _ _ _ _ _ e1 e2 g1 g2

/-- A make ahead of its time: in the abstract heap alone. -/
theorem Rw.pushOut {γ : Pl} {H : AHeap} {w : World} (h : Rw γ H w) (o : AObj) : Rw γ (H.push o) w := by
  have hn : γ H.n = none := by
    cases e : γ H.n with
    | none => rfl
    | some p => have := h.dom _ _ e; omega
  have key : ∀ x p, γ x = some p → x ≠ H.n := fun x p e hx => by rw [hx, hn] at e; cases e
  refine ⟨fun x hx => ?_, fun x p e => ?_, h.low, fun x c s z ob e eo => ?_, fun x y c s1 z1 s2 z2 o1 o2 e1 e2 g1 g2 => ?_⟩
  · simp only [AHeap.n_push] at hx
    rw [AHeap.get_push, if_neg (by omega)]
    exact h.fresh x (by omega)
  · have := h.dom x p e; simp; omega
  · rw [AHeap.get_push, if_neg (key x _ e)] at eo
    exact h.live x c s z ob e eo
  · rw [AHeap.get_push, if_neg (key x _ e1)] at g1
    rw [AHeap.get_push, if_neg (key y _ e2)] at g2
    exact h.inj x y _ _ _ _ _ _ _ e1 e2 g1 g2

theorem call_run {γ : Pl} {H : AHeap} {w : World} {cl : AM.Callee} (hcl : CalleeOk P cl) (hw : Rw γ H w) {ρ : Operand → AVal} {a : Act} (hρ : ∀ x, rel γ (ρ x) (a.eval x)) {o : Oper} {op : AOp}
    (hc : compOp P o.op = some op) (hcall : isCall op = true) {v : AVal} {H' : AHeap} (h : effOp ρ cl H op = some (v, H')) :
    Back P (Post γ H H' v w) ((execOp a.eval o).run P w) := by
  have hargs : ∀ l : Array Operand, rels γ (l.toList.map ρ) (l.map a.eval).toList := fun l => by
    rw [Array.toList_map]
    exact rels_of_get (by simp) fun i v hi => by
      simp only [List.getElem?_map, Option.map_eq_some_iff] at hi ⊢
      obtain ⟨x, hx, rfl⟩ := hi
      exact ⟨_, ⟨x, hx, rfl⟩, hρ x⟩
  obtain ⟨dst, op', type, pos, after, guard⟩ := o
  cases op' <;> simp only [compOp] at hc <;> try (cases hc; done)
  case makeFunc fn first caps => cases fn <;> simp at hc; subst hc; simp [isCall] at hcall
  case makeMap t r => cases r <;> simp at hc; subst hc; simp [isCall] at hcall
  case call c =>
    unfold compCall at hc
    split at hc
    case h_1 f hf =>
      cases hc
      have := hcl _ _ _ _ _ h γ w (c.args.map a.eval) hw (hargs _)
      simp only [execOp, resolve, hf, Sem.run_bind, Act.eval, Deferred.ofValue, Sem.run_pure, Result.andThen_ok, invoke]
      simpa using this
    case h_2 x hne hx =>
      cases hc
      simp only [effOp] at h
      split at h <;> try (cases h; done)
      rename_i f first caps hfx
      have hr := hρ x
      rw [hfx] at hr
      simp only [rel] at hr
      obtain ⟨fs, cs, e, r1, r2⟩ := hr
      have hall : rels γ (first ++ (c.args.toList.map ρ ++ caps)) ((fs ++ c.args.map a.eval) ++ cs).toList := by
        have h3 := rels_append r1 (rels_append (hargs c.args) r2)
        simpa [Array.toList_append] using h3
      have := hcl _ _ _ _ _ h γ w ((fs ++ c.args.map a.eval) ++ cs) hw hall
      simp only [execOp, resolve, hx, Sem.run_bind, e, Deferred.ofValue, Sem.run_pure, Result.andThen_ok, invoke]
      exact this
    all_goals
      (repeat' split at hc)
      all_goals first
        | (cases hc; done)
        | (cases hc; simp [isCall] at hcall; done)
        | (obtain ⟨_, _, rfl⟩ := Option.map_eq_some_iff.1 hc; simp [isCall] at hcall; done)
        | (simp at hc; obtain ⟨_, rfl⟩ := hc; simp [isCall] at hcall; done)
  all_goals
    (repeat' split at hc)
    all_goals first
      | (cases hc; done)
      | (cases hc; simp [isCall] at hcall; done)
      | (obtain ⟨_, _, rfl⟩ := Option.map_eq_some_iff.1 hc; simp [isCall] at hcall; done)
      | (simp at hc; obtain ⟨_, rfl⟩ := hc; simp [isCall] at hcall; done)

/-- What changes memory, and what calls. -/
theorem change_run {γ : Pl} {H : AHeap} {w : World} {cl : AM.Callee} (hcl : CalleeOk P cl) (hw : Rw γ H w) {ρ : Operand → AVal} {a : Act} (hρ : ∀ x, rel γ (ρ x) (a.eval x)) {o : Oper} {op : AOp}
    (hc : compOp P o.op = some op) (hk : op.kind = 3) {v : AVal} {H' : AHeap} (h : effOp ρ cl H op = some (v, H')) :
    Back P (Post γ H H' v w) ((execOp a.eval o).run P w) := by
  cases hcall : isCall op with
  | true => exact call_run hcl hw hρ hc hcall h
  | false =>
    obtain ⟨r, v', w', γ', e, hr, r1, r2, r3⟩ := eff_run hw hρ hc hk hcall h
    rw [e]
    rcases hr with rfl | ⟨rfl, rfl⟩
    · exact ⟨γ', r1, r2, r3⟩
    · exact ⟨γ', r1, r2, r3⟩

theorem kind_le (a : AOp) : a.kind ≤ 3 := by cases a <;> simp [AOp.kind]

/-- One operation. -/
theorem step_run {γ : Pl} {H : AHeap} {w : World} {cl : AM.Callee} (hcl : CalleeOk P cl) (hw : Rw γ H w) {ρ : Operand → AVal} {a : Act} (hρ : ∀ x, rel γ (ρ x) (a.eval x)) {o : Oper} {op : AOp}
    (hc : compOp P o.op = some op) {v : AVal} {H' : AHeap} (h : stepOp ρ cl H op = some (v, H')) :
    Back P (Post γ H H' v w) ((execOp a.eval o).run P w) := by
  unfold stepOp at h
  have hle := kind_le op
  have hk4 : op.kind = 0 ∨ op.kind = 1 ∨ op.kind = 2 ∨ op.kind = 3 := by omega
  rcases hk4 with hk | hk | hk | hk <;> rw [hk] at h <;> simp only at h
  · cases hp : pureOp ρ op with
    | none => rw [hp] at h; cases h
    | some u =>
      rw [hp] at h
      cases h
      obtain ⟨v', w', e, r1, r2, r3⟩ := look_run hw hρ hc (.inl hk) (by rw [lookOp, hk]; exact hp)
      rw [e]
      exact ⟨γ, r1, r2, r3⟩
  · cases hp : readOp ρ H op with
    | none => rw [hp] at h; cases h
    | some u =>
      rw [hp] at h
      cases h
      obtain ⟨v', w', e, r1, r2, r3⟩ := look_run hw hρ hc (.inr hk) (by rw [lookOp, hk]; exact hp)
      rw [e]
      exact ⟨γ, r1, r2, r3⟩
  · split at h
    · rename_i ob f hm
      cases h
      obtain ⟨v', w', o', z, e, g1, g2, g3, g4, g5, g6⟩ := make_run (w := w) hρ hc hk hm
      rw [e]
      have hnone : γ H.n = none := by
        cases eh : γ H.n with
        | none => rfl
        | some p => have := hw.dom _ _ eh; omega
      obtain ⟨q1, q2⟩ := hw.push (o := ob) (ob := o') (z := z) (g5 _ (Ext.put _ hnone))
      refine ⟨_, g6 _ _ (Pl.put_same _ _ _), q1.of_heap g1, ?_⟩
      refine ⟨q2.ext, q2.img, q2.hn, q2.out, g2, g3, g4, by rw [g1]; exact q2.size, fun c hc hn => ?_, q2.dead, fun c hc hnc hn => ?_⟩
      · have := q2.keep c hc hn
        rw [g1]
        exact this
      · have := q2.keepM c hc hnc hn
        rw [g1]
        exact this
    · cases h
  · exact change_run hcl hw hρ hc hk h

/-- The frame. -/
def FrRel (γ : Pl) (T : Fr) (a : Act) : Prop := ∀ t, rel γ (slot T t) (a.tmps.getD t undef)

theorem FrRel.mono {γ γ' : Pl} (h : Ext γ γ') {T : Fr} {a : Act} (r : FrRel γ T a) : FrRel γ' T a := fun t => rel_mono h _ _ (r t)

theorem rel_eval {γ : Pl} {T : Fr} {a : Act} {x : Operand} (h : ∀ t, x = .tmp t → rel γ (slot T t) (a.tmps.getD t undef)) : rel γ (aeval T x) (a.eval x) := by
  cases x with
  | tmp t => exact h t rfl
  | const v => simp [aeval, Act.eval, rel]
  | global g => simp [aeval, Act.eval, rel]
  | func f => simp only [aeval, Act.eval, rel]; exact ⟨#[], #[], rfl, by simp [rels], by simp [rels]⟩

theorem FrRel.eval {γ : Pl} {T : Fr} {a : Act} (r : FrRel γ T a) (x : Operand) : rel γ (aeval T x) (a.eval x) := rel_eval fun t _ => r t

theorem put_size (a : Act) (dst : Option Tmp) (v : Value) : (a.put dst v).tmps.size = a.tmps.size := by
  cases dst <;> simp [Act.put]

theorem put_getD (a : Act) {d : Nat} (hd : d < a.tmps.size) (v : Value) (t : Nat) : (a.put (some d) v).tmps.getD t undef = if t = d then v else a.tmps.getD t undef := by
  simp only [Act.put, Array.getD_eq_getD_getElem?, Array.getElem?_setIfInBounds]
  by_cases h : d = t
  · subst h; simp [hd]
  · simp [h, Ne.symm h]

theorem FrRel.put {γ : Pl} {T : Fr} {a : Act} (r : FrRel γ T a) {dst : Option Nat} (hd : ∀ d, dst = some d → d < a.tmps.size) {v : AVal} {v' : Value} (h : rel γ v v') :
    FrRel γ (aput T dst v) (a.put dst v') := by
  cases dst with
  | none => exact r
  | some d =>
    intro t
    rw [slot_aput, put_getD a (hd d rfl)]
    by_cases e : t = d
    · rw [if_pos e, if_pos e]; exact h
    · rw [if_neg e, if_neg e]; exact r t

theorem rel_bool {γ : Pl} {v : AVal} {c : Bool} (h : rel γ v (.bool c)) : v = .prim (.bool c) := by
  cases v <;> simp [rel] at h
  rw [h]

/-- The guard is read alike. -/
theorem wanted_same {γ : Pl} {T : Fr} {a : Act} {ops : Array Oper} {o : Oper} {s : AStep} (hs : compStep P ops o = some s)
    (h : ∀ t b, s.guard = some (t, b) → rel γ (slot T t) (a.tmps.getD t undef)) : Region.wanted o (yielded ops a.tmps) = wanted s.guard T := by
  unfold compStep at hs
  unfold Region.wanted
  cases hg : o.guard with
  | none => simp [hg] at hs; subst hs; rfl
  | some jb =>
    obtain ⟨j, b⟩ := jb
    rw [hg] at hs
    simp only at hs
    split at hs <;> simp at hs
    rename_i t ht
    subst hs
    have hr := h t b rfl
    simp only [yielded, ht, Option.bind_some]
    have hnb : ∀ u : Value, (∀ c, u ≠ .bool c) → rel γ (slot T t) u → wanted (some (t, b)) T = false := by
      intro u hu hru
      unfold wanted
      simp only
      split
      · rename_i c hc
        rw [hc, rel_prim] at hru
        exact absurd hru (hu c)
      · rfl
    rw [Array.getD_eq_getD_getElem?] at hr
    cases hq : a.tmps[t]? with
    | none =>
      rw [hq] at hr
      rw [hnb undef (by simp [undef]) hr]
      rfl
    | some u =>
      rw [hq] at hr
      by_cases hu : ∃ c, u = .bool c
      · obtain ⟨c, rfl⟩ := hu
        simp only [wanted, rel_bool hr]
        cases c <;> cases b <;> rfl
      · rw [hnb u (fun c e => hu ⟨c, e⟩) hr]
        cases u <;> first | rfl | exact absurd ⟨_, rfl⟩ hu

end
end Go.AM
