/-
  DERIVED. GIVEN WITH THE SEED: THE CARDS: each row of YtpiclhdjglelhaaDoorRows.lean that lists a variable, with what it lists TIED to the program's text (the seventh form; the later family's looks); each row that meets fmt, with fmt's text TOLD by the authors' own Lean function (tested against real Go, not proved from fmt's source: count such statements apart). THE CARD IS WHAT COUNTS. Prove the row's statement (the work); the ties are given (YtpiclhdjglelhaaDoorTie.lean); close each card by the builder's one call (the guide's Derived/Test/ToyasCard.lean, 'card_holds'). Laid BY PROGRAM, IN A SANDBOX (cutbox-door.mjs). By AI agents, Wed Nov 11 2026. No macro, syntax, notation, axiom, sorry.
-/
import Derived.Test.YtpiclhdjglelhaaDoorRows
import GoSem.ClaimSeven
namespace Go.Proofs.YtpiclhdjglelhaaDoor
namespace Rows

/-- THE TIED CARD OF 'laws.FnFirstMisfitInside'. -/
def fnFirstMisfitInsideCard : Claim7 := { stood := { row := fnFirstMisfitInsideRow, standIns := [], harness := (true, "526b164585851aae16ce3d16f03bbd5f19e1d8d6fed38c3aa74eb001388cd9c6"), looks := false }, kinds := [], alts := [], laidByText := true, laidKinds := [.data, .data, .data], laidTests := true, laidLooks := .later }
def FnFirstMisfitInsideCardSaid : Prop := Claim7.holds Tryd.pinned (.plain (OpenSpec.ofChange fnFirstMisfitInsideSpec)) fnFirstMisfitInsideCard

/-- THE TIED CARD OF 'laws.FnFirstMisfit'. -/
def fnFirstMisfitCard : Claim7 := { stood := { row := fnFirstMisfitRow, standIns := [], harness := (true, "526b164585851aae16ce3d16f03bbd5f19e1d8d6fed38c3aa74eb001388cd9c6"), looks := false }, kinds := [], alts := [], laidByText := true, laidKinds := [.data, .data, .data], laidTests := true, laidLooks := .later }
def FnFirstMisfitCardSaid : Prop := Claim7.holds Tryd.pinned (.plain (OpenSpec.ofChange fnFirstMisfitSpec)) fnFirstMisfitCard

/-- THE TIED CARD OF 'laws.FnDiffSizeBack'. -/
def fnDiffSizeBackCard : Claim7 := { stood := { row := fnDiffSizeBackRow, standIns := [], harness := (true, "526b164585851aae16ce3d16f03bbd5f19e1d8d6fed38c3aa74eb001388cd9c6"), looks := false }, kinds := [], alts := [], laidByText := true, laidKinds := [.data, .data, .data], laidTests := true, laidLooks := .later }
def FnDiffSizeBackCardSaid : Prop := Claim7.holds Tryd.pinned (.plain (OpenSpec.ofChange fnDiffSizeBackSpec)) fnDiffSizeBackCard

/-- THE TIED CARD OF 'laws.FnDiffSizeNames'. -/
def fnDiffSizeNamesCard : Claim7 := { stood := { row := fnDiffSizeNamesRow, standIns := [], harness := (true, "526b164585851aae16ce3d16f03bbd5f19e1d8d6fed38c3aa74eb001388cd9c6"), looks := false }, kinds := [], alts := [], laidByText := true, laidKinds := [.data, .data, .data], laidTests := true, laidLooks := .later }
def FnDiffSizeNamesCardSaid : Prop := Claim7.holds Tryd.pinned (.plain (OpenSpec.ofChange fnDiffSizeNamesSpec)) fnDiffSizeNamesCard

/-- THE TIED CARD OF 'laws.FnMergeNodeValue'. -/
def fnMergeNodeValueCard : Claim7 := { stood := { row := fnMergeNodeValueRow, standIns := [], harness := (true, "526b164585851aae16ce3d16f03bbd5f19e1d8d6fed38c3aa74eb001388cd9c6"), looks := false }, kinds := [], alts := [], laidByText := true, laidKinds := [.data, .data, .data], laidTests := true, laidLooks := .later }
def FnMergeNodeValueCardSaid : Prop := Claim7.holds Tryd.pinned (.plain (OpenSpec.ofChange fnMergeNodeValueSpec)) fnMergeNodeValueCard

/-- THE TIED CARD OF 'laws.FnMergeNodeOthers'. -/
def fnMergeNodeOthersCard : Claim7 := { stood := { row := fnMergeNodeOthersRow, standIns := [], harness := (true, "526b164585851aae16ce3d16f03bbd5f19e1d8d6fed38c3aa74eb001388cd9c6"), looks := false }, kinds := [], alts := [], laidByText := true, laidKinds := [.data, .data, .data], laidTests := true, laidLooks := .later }
def FnMergeNodeOthersCardSaid : Prop := Claim7.holds Tryd.pinned (.plain (OpenSpec.ofChange fnMergeNodeOthersSpec)) fnMergeNodeOthersCard

/-- THE TIED CARD OF 'laws.FnMergeForNames'. -/
def fnMergeForNamesCard : Claim7 := { stood := { row := fnMergeForNamesRow, standIns := [], harness := (true, "526b164585851aae16ce3d16f03bbd5f19e1d8d6fed38c3aa74eb001388cd9c6"), looks := false }, kinds := [], alts := [], laidByText := true, laidKinds := [.data, .data, .data], laidTests := true, laidLooks := .later }
def FnMergeForNamesCardSaid : Prop := Claim7.holds Tryd.pinned (.plain (OpenSpec.ofChange fnMergeForNamesSpec)) fnMergeForNamesCard

/-- THE SECOND FORM's CARD OF 'laws.FnFirstMisfitInside'. -/
def fnFirstMisfitInsideUptoCard : Claim7 := { stood := { row := fnFirstMisfitInsideUptoRow, standIns := [], harness := (true, "526b164585851aae16ce3d16f03bbd5f19e1d8d6fed38c3aa74eb001388cd9c6"), looks := false }, kinds := [], alts := [], laidByText := true, laidKinds := [.data, .data, .data], laidTests := true, laidLooks := .later }
def FnFirstMisfitInsideUptoCardSaid : Prop := Claim7.holds Tryd.pinned (.plain (OpenSpec.upto fnFirstMisfitInsideSpec)) fnFirstMisfitInsideUptoCard

/-- THE SECOND FORM's CARD OF 'laws.FnFirstMisfit'. -/
def fnFirstMisfitUptoCard : Claim7 := { stood := { row := fnFirstMisfitUptoRow, standIns := [], harness := (true, "526b164585851aae16ce3d16f03bbd5f19e1d8d6fed38c3aa74eb001388cd9c6"), looks := false }, kinds := [], alts := [], laidByText := true, laidKinds := [.data, .data, .data], laidTests := true, laidLooks := .later }
def FnFirstMisfitUptoCardSaid : Prop := Claim7.holds Tryd.pinned (.plain (OpenSpec.upto fnFirstMisfitSpec)) fnFirstMisfitUptoCard

/-- THE SECOND FORM's CARD OF 'laws.FnDiffSizeBack'. -/
def fnDiffSizeBackUptoCard : Claim7 := { stood := { row := fnDiffSizeBackUptoRow, standIns := [], harness := (true, "526b164585851aae16ce3d16f03bbd5f19e1d8d6fed38c3aa74eb001388cd9c6"), looks := false }, kinds := [], alts := [], laidByText := true, laidKinds := [.data, .data, .data], laidTests := true, laidLooks := .later }
def FnDiffSizeBackUptoCardSaid : Prop := Claim7.holds Tryd.pinned (.plain (OpenSpec.upto fnDiffSizeBackSpec)) fnDiffSizeBackUptoCard

/-- THE SECOND FORM's CARD OF 'laws.FnDiffSizeNames'. -/
def fnDiffSizeNamesUptoCard : Claim7 := { stood := { row := fnDiffSizeNamesUptoRow, standIns := [], harness := (true, "526b164585851aae16ce3d16f03bbd5f19e1d8d6fed38c3aa74eb001388cd9c6"), looks := false }, kinds := [], alts := [], laidByText := true, laidKinds := [.data, .data, .data], laidTests := true, laidLooks := .later }
def FnDiffSizeNamesUptoCardSaid : Prop := Claim7.holds Tryd.pinned (.plain (OpenSpec.upto fnDiffSizeNamesSpec)) fnDiffSizeNamesUptoCard

/-- THE SECOND FORM's CARD OF 'laws.FnMergeNodeValue'. -/
def fnMergeNodeValueUptoCard : Claim7 := { stood := { row := fnMergeNodeValueUptoRow, standIns := [], harness := (true, "526b164585851aae16ce3d16f03bbd5f19e1d8d6fed38c3aa74eb001388cd9c6"), looks := false }, kinds := [], alts := [], laidByText := true, laidKinds := [.data, .data, .data], laidTests := true, laidLooks := .later }
def FnMergeNodeValueUptoCardSaid : Prop := Claim7.holds Tryd.pinned (.plain (OpenSpec.upto fnMergeNodeValueSpec)) fnMergeNodeValueUptoCard

/-- THE SECOND FORM's CARD OF 'laws.FnMergeNodeOthers'. -/
def fnMergeNodeOthersUptoCard : Claim7 := { stood := { row := fnMergeNodeOthersUptoRow, standIns := [], harness := (true, "526b164585851aae16ce3d16f03bbd5f19e1d8d6fed38c3aa74eb001388cd9c6"), looks := false }, kinds := [], alts := [], laidByText := true, laidKinds := [.data, .data, .data], laidTests := true, laidLooks := .later }
def FnMergeNodeOthersUptoCardSaid : Prop := Claim7.holds Tryd.pinned (.plain (OpenSpec.upto fnMergeNodeOthersSpec)) fnMergeNodeOthersUptoCard

/-- THE SECOND FORM's CARD OF 'laws.FnMergeForNames'. -/
def fnMergeForNamesUptoCard : Claim7 := { stood := { row := fnMergeForNamesUptoRow, standIns := [], harness := (true, "526b164585851aae16ce3d16f03bbd5f19e1d8d6fed38c3aa74eb001388cd9c6"), looks := false }, kinds := [], alts := [], laidByText := true, laidKinds := [.data, .data, .data], laidTests := true, laidLooks := .later }
def FnMergeForNamesUptoCardSaid : Prop := Claim7.holds Tryd.pinned (.plain (OpenSpec.upto fnMergeForNamesSpec)) fnMergeForNamesUptoCard
end Rows
end Go.Proofs.YtpiclhdjglelhaaDoor
