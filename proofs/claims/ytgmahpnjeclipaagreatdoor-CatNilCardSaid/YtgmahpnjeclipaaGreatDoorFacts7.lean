/- Closed facts that the row of catNil asks, each by itself. Over the program's given form. -/
import Derived.Test.YtgmahpnjeclipaaGreatDoorFacts
namespace Go.Proofs.YtgmahpnjeclipaaGreatDoor.Facts.F7
open Go
set_option maxRecDepth 1000000
theorem c1 : Rows.catNilRow.wf (OpenSpec.ofChange Rows.catNilSpec) = true := by kernel_rfl
theorem c4 : Tryz.f7.params.all (Tryz.prog.readableRec ·) = true := by kernel_rfl
theorem c5 : namedTie Tryz.prog Rows.catNilRow.named Rows.catNilSpec.vars = true := by kernel_rfl
theorem c10 : (Rows.catNilRow.inPlace == Tryz.prog.inPlace 7) = true := by kernel_rfl
theorem c11 : (Rows.catNilRow.unfollowed == Tryz.prog.unfollowed 7) = true := by kernel_rfl
theorem c12 : (Rows.catNilRow.recurses == Tryz.prog.recurses 7) = true := by kernel_rfl
theorem c13 : (Rows.catNilRow.named == Tryz.prog.varsNamed 7) = true := by kernel_rfl
theorem c14 : (Rows.catNilRow.maps == (Tryz.f7.params.toList ++ Rows.catNilSpec.plain.varTypes Tryz.prog).any (Tryz.prog.mapsRec ·)) = true := by kernel_rfl
theorem c15 : (Rows.catNilRow.ifaces == (Tryz.f7.params.toList ++ Rows.catNilSpec.plain.varTypes Tryz.prog).any (Tryz.prog.ifacesRec ·)) = true := by kernel_rfl
theorem c16 : (Rows.catNilRow.mapsOut == Tryz.prog.mapsAmong Tryz.f7.resultTypes.toList) = true := by kernel_rfl
theorem c17 : (Rows.catNilRow.loops == (Tryz.f7.params.toList ++ Rows.catNilSpec.plain.varTypes Tryz.prog).any (Tryz.prog.loopsFrom ·)) = true := by kernel_rfl
theorem c18 : (Rows.catNilRow.wideKeys == (Tryz.f7.params.toList ++ Rows.catNilSpec.plain.varTypes Tryz.prog ++ Tryz.f7.resultTypes.toList).any (Tryz.prog.wideKeysFrom ·)) = true := by kernel_rfl
theorem c20 : Tryz.f7.resultTypes.all (fun t => Tryz.prog.readableRec t && decide (t < Tryz.prog.types.size)) = true := by kernel_rfl
theorem c21 : (Rows.catNilRow.ifacesOut == Tryz.f7.resultTypes.toList.any (Tryz.prog.ifacesRec ·)) = true := by kernel_rfl
theorem c22 : (Rows.catNilRow.loopsOut == Tryz.f7.resultTypes.toList.any (Tryz.prog.loopsFrom ·)) = true := by kernel_rfl
theorem c23 : (Rows.catNilRow.plainKeys == Tryz.prog.plainKeys) = true := by kernel_rfl
theorem c27 : (Rows.catNilRow.lifted == Tryz.prog.liftsFinal) = true := by kernel_rfl
theorem c28 : (Tryz.prog.make == some Rows.catNilRow.make) = true := by kernel_rfl
theorem c31 : (Rows.catNilRow.veiled == (Tryz.f7.params.toList ++ Rows.catNilSpec.plain.varTypes Tryz.prog ++ Tryz.f7.resultTypes.toList).any (Tryz.prog.veiledRec ·)) = true := by kernel_rfl
theorem c32 : Rows.catNilRow.veiledFits Tryz.prog Tryz.f7.params.toList (Tryz.f7.params.toList ++ Rows.catNilSpec.plain.varTypes Tryz.prog ++ Tryz.f7.resultTypes.toList) = true := by kernel_rfl
theorem joined : joinedFacts Tryz.prog 7 Tryz.f7 (OpenSpec.ofChange Rows.catNilSpec).bare Rows.catNilRow = true :=
  (both (both (both (both (both (both (both (both (both (both (both (both (both (both (both (both (both (both (both (both (both (both (both (both (both (both (both (both (both (both (both c1 laidOut) rowed) c4) c5) rfl) noStops) rfl) noKnobs) c10) c11) c12) c13) c14) c15) c16) c17) c18) rfl) c20) c21) c22) c23) rfl) heard) enter) c27) c28) rfl) rfl) c31) c32)
theorem named : Tryz.prog.funcNamed "inquest/inquestlaw21.CatNil" = some 7 := by kernel_rfl
end Go.Proofs.YtgmahpnjeclipaaGreatDoor.Facts.F7
