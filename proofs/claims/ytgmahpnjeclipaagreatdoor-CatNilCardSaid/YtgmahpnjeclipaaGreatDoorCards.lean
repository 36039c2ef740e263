/-
  DERIVED. GIVEN WITH THE SEED: THE CARDS: each row of YtgmahpnjeclipaaGreatDoorRows.lean that lists a variable, with what it lists TIED to the program's text (the seventh form; the later family's looks); each row that meets fmt, with fmt's text TOLD by the authors' own Lean function (tested against real Go, not proved from fmt's source: count such statements apart). THE CARD IS WHAT COUNTS. Prove the row's statement (the work); the ties are given (YtgmahpnjeclipaaGreatDoorTie.lean); close each card by the builder's one call (the guide's Derived/Test/ToyasCard.lean, 'card_holds'). Laid BY PROGRAM, IN A SANDBOX (cutbox-door.mjs). By AI agents, Wed Nov 11 2026. No macro, syntax, notation, axiom, sorry.
-/
import Derived.Test.YtgmahpnjeclipaaGreatDoorRows
import GoSem.ClaimSeven
namespace Go.Proofs.YtgmahpnjeclipaaGreatDoor
namespace Rows

/-- THE TIED CARD OF 'inquestlaw19.TreeEmpties'. -/
def treeEmptiesCard : Claim7 := { stood := { row := treeEmptiesRow, standIns := [], harness := (true, "acc3409f47d48d7f62663a7cb8ec6cb9bfb05865b879e4cce10402a3489b3aa6"), looks := false }, kinds := [], alts := [], laidByText := true, laidKinds := [.data, .pinned], laidTests := true, laidLooks := .later }
def TreeEmptiesCardSaid : Prop := Claim7.holds Tryz.pinned (.plain (OpenSpec.ofChange treeEmptiesSpec)) treeEmptiesCard

/-- THE TIED CARD OF 'inquestlaw19.TreeActs'. -/
def treeActsCard : Claim7 := { stood := { row := treeActsRow, standIns := [], harness := (true, "acc3409f47d48d7f62663a7cb8ec6cb9bfb05865b879e4cce10402a3489b3aa6"), looks := false }, kinds := [], alts := [], laidByText := true, laidKinds := [.data, .pinned], laidTests := true, laidLooks := .later }
def TreeActsCardSaid : Prop := Claim7.holds Tryz.pinned (.plain (OpenSpec.ofChange treeActsSpec)) treeActsCard

/-- THE TIED CARD OF 'inquestlaw21.CatOrders'. -/
def catOrdersCard : Claim7 := { stood := { row := catOrdersRow, standIns := [], harness := (true, "acc3409f47d48d7f62663a7cb8ec6cb9bfb05865b879e4cce10402a3489b3aa6"), looks := false }, kinds := [], alts := [], laidByText := true, laidKinds := [.data, .pinned], laidTests := true, laidLooks := .later }
def CatOrdersCardSaid : Prop := Claim7.holds Tryz.pinned (.plain (OpenSpec.ofChange catOrdersSpec)) catOrdersCard

/-- THE TIED CARD OF 'inquestlaw21.CatTwice'. -/
def catTwiceCard : Claim7 := { stood := { row := catTwiceRow, standIns := [], harness := (true, "acc3409f47d48d7f62663a7cb8ec6cb9bfb05865b879e4cce10402a3489b3aa6"), looks := false }, kinds := [], alts := [], laidByText := true, laidKinds := [.data, .pinned], laidTests := true, laidLooks := .later }
def CatTwiceCardSaid : Prop := Claim7.holds Tryz.pinned (.plain (OpenSpec.ofChange catTwiceSpec)) catTwiceCard

/-- THE TIED CARD OF 'inquestlaw21.CatNil'. -/
def catNilCard : Claim7 := { stood := { row := catNilRow, standIns := [], harness := (true, "acc3409f47d48d7f62663a7cb8ec6cb9bfb05865b879e4cce10402a3489b3aa6"), looks := false }, kinds := [], alts := [], laidByText := true, laidKinds := [.data, .pinned], laidTests := true, laidLooks := .later }
def CatNilCardSaid : Prop := Claim7.holds Tryz.pinned (.plain (OpenSpec.ofChange catNilSpec)) catNilCard

/-- THE TIED CARD OF 'inquestlaw21.CatActs'. -/
def catActsCard : Claim7 := { stood := { row := catActsRow, standIns := [], harness := (true, "acc3409f47d48d7f62663a7cb8ec6cb9bfb05865b879e4cce10402a3489b3aa6"), looks := false }, kinds := [], alts := [], laidByText := true, laidKinds := [.data, .pinned], laidTests := true, laidLooks := .later }
def CatActsCardSaid : Prop := Claim7.holds Tryz.pinned (.plain (OpenSpec.ofChange catActsSpec)) catActsCard

/-- THE SECOND FORM's CARD OF 'inquestlaw19.TreeEmpties'. -/
def treeEmptiesUptoCard : Claim7 := { stood := { row := treeEmptiesUptoRow, standIns := [], harness := (true, "acc3409f47d48d7f62663a7cb8ec6cb9bfb05865b879e4cce10402a3489b3aa6"), looks := false }, kinds := [], alts := [], laidByText := true, laidKinds := [.data, .pinned], laidTests := true, laidLooks := .later }
def TreeEmptiesUptoCardSaid : Prop := Claim7.holds Tryz.pinned (.plain (OpenSpec.upto treeEmptiesSpec)) treeEmptiesUptoCard

/-- THE SECOND FORM's CARD OF 'inquestlaw19.TreeActs'. -/
def treeActsUptoCard : Claim7 := { stood := { row := treeActsUptoRow, standIns := [], harness := (true, "acc3409f47d48d7f62663a7cb8ec6cb9bfb05865b879e4cce10402a3489b3aa6"), looks := false }, kinds := [], alts := [], laidByText := true, laidKinds := [.data, .pinned], laidTests := true, laidLooks := .later }
def TreeActsUptoCardSaid : Prop := Claim7.holds Tryz.pinned (.plain (OpenSpec.upto treeActsSpec)) treeActsUptoCard

/-- THE SECOND FORM's CARD OF 'inquestlaw21.CatOrders'. -/
def catOrdersUptoCard : Claim7 := { stood := { row := catOrdersUptoRow, standIns := [], harness := (true, "acc3409f47d48d7f62663a7cb8ec6cb9bfb05865b879e4cce10402a3489b3aa6"), looks := false }, kinds := [], alts := [], laidByText := true, laidKinds := [.data, .pinned], laidTests := true, laidLooks := .later }
def CatOrdersUptoCardSaid : Prop := Claim7.holds Tryz.pinned (.plain (OpenSpec.upto catOrdersSpec)) catOrdersUptoCard

/-- THE SECOND FORM's CARD OF 'inquestlaw21.CatTwice'. -/
def catTwiceUptoCard : Claim7 := { stood := { row := catTwiceUptoRow, standIns := [], harness := (true, "acc3409f47d48d7f62663a7cb8ec6cb9bfb05865b879e4cce10402a3489b3aa6"), looks := false }, kinds := [], alts := [], laidByText := true, laidKinds := [.data, .pinned], laidTests := true, laidLooks := .later }
def CatTwiceUptoCardSaid : Prop := Claim7.holds Tryz.pinned (.plain (OpenSpec.upto catTwiceSpec)) catTwiceUptoCard

/-- THE SECOND FORM's CARD OF 'inquestlaw21.CatNil'. -/
def catNilUptoCard : Claim7 := { stood := { row := catNilUptoRow, standIns := [], harness := (true, "acc3409f47d48d7f62663a7cb8ec6cb9bfb05865b879e4cce10402a3489b3aa6"), looks := false }, kinds := [], alts := [], laidByText := true, laidKinds := [.data, .pinned], laidTests := true, laidLooks := .later }
def CatNilUptoCardSaid : Prop := Claim7.holds Tryz.pinned (.plain (OpenSpec.upto catNilSpec)) catNilUptoCard

/-- THE SECOND FORM's CARD OF 'inquestlaw21.CatActs'. -/
def catActsUptoCard : Claim7 := { stood := { row := catActsUptoRow, standIns := [], harness := (true, "acc3409f47d48d7f62663a7cb8ec6cb9bfb05865b879e4cce10402a3489b3aa6"), looks := false }, kinds := [], alts := [], laidByText := true, laidKinds := [.data, .pinned], laidTests := true, laidLooks := .later }
def CatActsUptoCardSaid : Prop := Claim7.holds Tryz.pinned (.plain (OpenSpec.upto catActsSpec)) catActsUptoCard
end Rows
end Go.Proofs.YtgmahpnjeclipaaGreatDoor
