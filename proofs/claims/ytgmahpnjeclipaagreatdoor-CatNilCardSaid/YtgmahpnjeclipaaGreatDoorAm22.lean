/- The table of compiled functions. No condition: over the program's given form. -/
import Derived.Test.YtgmahpnjeclipaaGreatDoorRows
import Derived.Test.YtgmahpnjeclipaaGreatDoorAm21
import Derived.KernelRfl
namespace Go.AM.Code

/-- A text, of its bytes. -/
def bs (l : List Nat) : ByteArray := ⟨(l.map UInt8.ofNat).toArray⟩

/-- A function of the program, and what it is compiled to. -/
def Entry (f : FuncId) (af : AFunc) : Prop :=
  ∃ fn, Proofs.Tryz.prog.funcs[f]? = some fn ∧ (fn.name == "runtime.NumGoroutine") = false ∧ compFunc Proofs.Tryz.prog fn = some af

/-- A table, of a list. -/
def tableOf : List (FuncId × AFunc) → Tr AFunc
  | [] => .leaf
  | (f, a) :: l => Tr.setF (f + 1) (tableOf l) f (some a)

theorem tableOf_get : ∀ (l : List (FuncId × AFunc)) (f : FuncId) (af : AFunc), (tableOf l).get f = some af → (f, af) ∈ l
  | [], f, af, h => by simp [tableOf, Tr.get] at h
  | (g, a) :: l, f, af, h => by
    rw [tableOf, Tr.get_setF _ _ _ _ _ g.lt_succ_self] at h
    split at h
    · rename_i e
      cases h
      subst e
      simp
    · exact List.mem_cons_of_mem _ (tableOf_get l f af h)

theorem tableOf_ok (l : List (FuncId × AFunc)) (hl : ∀ x ∈ l, Entry x.1 x.2) : TableOk Proofs.Tryz.prog (tableOf l).get :=
  fun f af h => hl (f, af) (tableOf_get l f af h)
end Go.AM.Code
