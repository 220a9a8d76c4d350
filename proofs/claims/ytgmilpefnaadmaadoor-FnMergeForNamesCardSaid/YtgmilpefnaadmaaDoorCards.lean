/-
  DERIVED. GIVEN WITH THE SEED: THE CARDS: each row of YtgmilpefnaadmaaDoorRows.lean that lists a variable, with what it lists TIED to the program's text (the seventh form; the later family's looks); each row that meets fmt, with fmt's text TOLD by the authors' own Lean function (tested against real Go, not proved from fmt's source: count such statements apart). THE CARD IS WHAT COUNTS. Prove the row's statement (the work); the ties are given (YtgmilpefnaadmaaDoorTie.lean); close each card by the builder's one call (the guide's Derived/Test/ToyasCard.lean, 'card_holds'). Laid BY PROGRAM, IN A SANDBOX (cutbox-door.mjs). By AI agents, Wed Nov 11 2026. No macro, syntax, notation, axiom, sorry.
-/
import Derived.Test.YtgmilpefnaadmaaDoorRows
import GoSem.ClaimSeven
namespace Go.Proofs.YtgmilpefnaadmaaDoor
namespace Rows

/-- THE TIED CARD OF 'laws.FnRemoveNodeWhole'. -/
def fnRemoveNodeWholeCard : Claim7 := { stood := { row := fnRemoveNodeWholeRow, standIns := [], harness := (true, "04df9510ad30276eb4c3030ef04d87af262272521b51fd9ee9e93299a81c3d1c"), looks := false }, kinds := [], alts := [], laidByText := true, laidKinds := [.data, .data, .data], laidTests := true, laidLooks := .later }
def FnRemoveNodeWholeCardSaid : Prop := Claim7.holds Tryd.pinned (.plain (OpenSpec.ofChange fnRemoveNodeWholeSpec)) fnRemoveNodeWholeCard

/-- THE TIED CARD OF 'laws.FnRemoveNode'. -/
def fnRemoveNodeCard : Claim7 := { stood := { row := fnRemoveNodeRow, standIns := [], harness := (true, "04df9510ad30276eb4c3030ef04d87af262272521b51fd9ee9e93299a81c3d1c"), looks := false }, kinds := [], alts := [], laidByText := true, laidKinds := [.data, .data, .data], laidTests := true, laidLooks := .later }
def FnRemoveNodeCardSaid : Prop := Claim7.holds Tryd.pinned (.plain (OpenSpec.ofChange fnRemoveNodeSpec)) fnRemoveNodeCard

/-- THE TIED CARD OF 'laws.FnAddNode'. -/
def fnAddNodeCard : Claim7 := { stood := { row := fnAddNodeRow, standIns := [], harness := (true, "04df9510ad30276eb4c3030ef04d87af262272521b51fd9ee9e93299a81c3d1c"), looks := false }, kinds := [], alts := [], laidByText := true, laidKinds := [.data, .data, .data], laidTests := true, laidLooks := .later }
def FnAddNodeCardSaid : Prop := Claim7.holds Tryd.pinned (.plain (OpenSpec.ofChange fnAddNodeSpec)) fnAddNodeCard

/-- THE TIED CARD OF 'laws.FnAddNodeCount'. -/
def fnAddNodeCountCard : Claim7 := { stood := { row := fnAddNodeCountRow, standIns := [], harness := (true, "04df9510ad30276eb4c3030ef04d87af262272521b51fd9ee9e93299a81c3d1c"), looks := false }, kinds := [], alts := [], laidByText := true, laidKinds := [.data, .data, .data], laidTests := true, laidLooks := .later }
def FnAddNodeCountCardSaid : Prop := Claim7.holds Tryd.pinned (.plain (OpenSpec.ofChange fnAddNodeCountSpec)) fnAddNodeCountCard

/-- THE TIED CARD OF 'laws.FnAddNodeRemove'. -/
def fnAddNodeRemoveCard : Claim7 := { stood := { row := fnAddNodeRemoveRow, standIns := [], harness := (true, "04df9510ad30276eb4c3030ef04d87af262272521b51fd9ee9e93299a81c3d1c"), looks := false }, kinds := [], alts := [], laidByText := true, laidKinds := [.data, .data, .data], laidTests := true, laidLooks := .later }
def FnAddNodeRemoveCardSaid : Prop := Claim7.holds Tryd.pinned (.plain (OpenSpec.ofChange fnAddNodeRemoveSpec)) fnAddNodeRemoveCard

/-- THE TIED CARD OF 'laws.FnAddNodeEnd'. -/
def fnAddNodeEndCard : Claim7 := { stood := { row := fnAddNodeEndRow, standIns := [], harness := (true, "04df9510ad30276eb4c3030ef04d87af262272521b51fd9ee9e93299a81c3d1c"), looks := false }, kinds := [], alts := [], laidByText := true, laidKinds := [.data, .data, .data], laidTests := true, laidLooks := .later }
def FnAddNodeEndCardSaid : Prop := Claim7.holds Tryd.pinned (.plain (OpenSpec.ofChange fnAddNodeEndSpec)) fnAddNodeEndCard

/-- THE TIED CARD OF 'laws.FnMergeForNames'. -/
def fnMergeForNamesCard : Claim7 := { stood := { row := fnMergeForNamesRow, standIns := [], harness := (true, "04df9510ad30276eb4c3030ef04d87af262272521b51fd9ee9e93299a81c3d1c"), looks := false }, kinds := [], alts := [], laidByText := true, laidKinds := [.data, .data, .data], laidTests := true, laidLooks := .later }
def FnMergeForNamesCardSaid : Prop := Claim7.holds Tryd.pinned (.plain (OpenSpec.ofChange fnMergeForNamesSpec)) fnMergeForNamesCard

/-- THE SECOND FORM's CARD OF 'laws.FnRemoveNodeWhole'. -/
def fnRemoveNodeWholeUptoCard : Claim7 := { stood := { row := fnRemoveNodeWholeUptoRow, standIns := [], harness := (true, "04df9510ad30276eb4c3030ef04d87af262272521b51fd9ee9e93299a81c3d1c"), looks := false }, kinds := [], alts := [], laidByText := true, laidKinds := [.data, .data, .data], laidTests := true, laidLooks := .later }
def FnRemoveNodeWholeUptoCardSaid : Prop := Claim7.holds Tryd.pinned (.plain (OpenSpec.upto fnRemoveNodeWholeSpec)) fnRemoveNodeWholeUptoCard

/-- THE SECOND FORM's CARD OF 'laws.FnRemoveNode'. -/
def fnRemoveNodeUptoCard : Claim7 := { stood := { row := fnRemoveNodeUptoRow, standIns := [], harness := (true, "04df9510ad30276eb4c3030ef04d87af262272521b51fd9ee9e93299a81c3d1c"), looks := false }, kinds := [], alts := [], laidByText := true, laidKinds := [.data, .data, .data], laidTests := true, laidLooks := .later }
def FnRemoveNodeUptoCardSaid : Prop := Claim7.holds Tryd.pinned (.plain (OpenSpec.upto fnRemoveNodeSpec)) fnRemoveNodeUptoCard

/-- THE SECOND FORM's CARD OF 'laws.FnAddNode'. -/
def fnAddNodeUptoCard : Claim7 := { stood := { row := fnAddNodeUptoRow, standIns := [], harness := (true, "04df9510ad30276eb4c3030ef04d87af262272521b51fd9ee9e93299a81c3d1c"), looks := false }, kinds := [], alts := [], laidByText := true, laidKinds := [.data, .data, .data], laidTests := true, laidLooks := .later }
def FnAddNodeUptoCardSaid : Prop := Claim7.holds Tryd.pinned (.plain (OpenSpec.upto fnAddNodeSpec)) fnAddNodeUptoCard

/-- THE SECOND FORM's CARD OF 'laws.FnAddNodeCount'. -/
def fnAddNodeCountUptoCard : Claim7 := { stood := { row := fnAddNodeCountUptoRow, standIns := [], harness := (true, "04df9510ad30276eb4c3030ef04d87af262272521b51fd9ee9e93299a81c3d1c"), looks := false }, kinds := [], alts := [], laidByText := true, laidKinds := [.data, .data, .data], laidTests := true, laidLooks := .later }
def FnAddNodeCountUptoCardSaid : Prop := Claim7.holds Tryd.pinned (.plain (OpenSpec.upto fnAddNodeCountSpec)) fnAddNodeCountUptoCard

/-- THE SECOND FORM's CARD OF 'laws.FnAddNodeRemove'. -/
def fnAddNodeRemoveUptoCard : Claim7 := { stood := { row := fnAddNodeRemoveUptoRow, standIns := [], harness := (true, "04df9510ad30276eb4c3030ef04d87af262272521b51fd9ee9e93299a81c3d1c"), looks := false }, kinds := [], alts := [], laidByText := true, laidKinds := [.data, .data, .data], laidTests := true, laidLooks := .later }
def FnAddNodeRemoveUptoCardSaid : Prop := Claim7.holds Tryd.pinned (.plain (OpenSpec.upto fnAddNodeRemoveSpec)) fnAddNodeRemoveUptoCard

/-- THE SECOND FORM's CARD OF 'laws.FnAddNodeEnd'. -/
def fnAddNodeEndUptoCard : Claim7 := { stood := { row := fnAddNodeEndUptoRow, standIns := [], harness := (true, "04df9510ad30276eb4c3030ef04d87af262272521b51fd9ee9e93299a81c3d1c"), looks := false }, kinds := [], alts := [], laidByText := true, laidKinds := [.data, .data, .data], laidTests := true, laidLooks := .later }
def FnAddNodeEndUptoCardSaid : Prop := Claim7.holds Tryd.pinned (.plain (OpenSpec.upto fnAddNodeEndSpec)) fnAddNodeEndUptoCard

/-- THE SECOND FORM's CARD OF 'laws.FnMergeForNames'. -/
def fnMergeForNamesUptoCard : Claim7 := { stood := { row := fnMergeForNamesUptoRow, standIns := [], harness := (true, "04df9510ad30276eb4c3030ef04d87af262272521b51fd9ee9e93299a81c3d1c"), looks := false }, kinds := [], alts := [], laidByText := true, laidKinds := [.data, .data, .data], laidTests := true, laidLooks := .later }
def FnMergeForNamesUptoCardSaid : Prop := Claim7.holds Tryd.pinned (.plain (OpenSpec.upto fnMergeForNamesSpec)) fnMergeForNamesUptoCard
end Rows
end Go.Proofs.YtgmilpefnaadmaaDoor
