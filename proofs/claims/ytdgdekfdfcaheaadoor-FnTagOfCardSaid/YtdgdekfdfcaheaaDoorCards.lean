/-
  DERIVED. GIVEN WITH THE SEED: THE CARDS: each row of YtdgdekfdfcaheaaDoorRows.lean that lists a variable, with what it lists TIED to the program's text (the seventh form; the later family's looks); each row that meets fmt, with fmt's text TOLD by the authors' own Lean function (tested against real Go, not proved from fmt's source: count such statements apart). THE CARD IS WHAT COUNTS. Prove the row's statement (the work); the ties are given (YtdgdekfdfcaheaaDoorTie.lean); close each card by the builder's one call (the guide's Derived/Test/ToyasCard.lean, 'card_holds'). Laid BY PROGRAM, IN A SANDBOX (cutbox-door.mjs). By AI agents, Wed Nov 11 2026. No macro, syntax, notation, axiom, sorry.
-/
import Derived.Test.YtdgdekfdfcaheaaDoorRows
import GoSem.ClaimSeven
namespace Go.Proofs.YtdgdekfdfcaheaaDoor
namespace Rows

/-- THE TIED CARD OF 'laws.FnTagOf'. -/
def fnTagOfCard : Claim7 := { stood := { row := fnTagOfRow, standIns := [], harness := (true, "69ffe4d84a5a89e3702da725b613bca04c345a45cdae6bc9958dcc7dbf06b72b"), looks := true }, kinds := [], alts := [], laidByText := true, laidKinds := [.data, .data, .data, .sentinel, .sentinel], laidTests := true, laidLooks := .later }
def FnTagOfCardSaid : Prop := Claim7.holds Tryd.pinned (.plain (OpenSpec.ofChange fnTagOfSpec)) fnTagOfCard

/-- THE SECOND FORM's CARD OF 'laws.FnTagOf'. -/
def fnTagOfUptoCard : Claim7 := { stood := { row := fnTagOfUptoRow, standIns := [], harness := (true, "69ffe4d84a5a89e3702da725b613bca04c345a45cdae6bc9958dcc7dbf06b72b"), looks := true }, kinds := [], alts := [], laidByText := true, laidKinds := [.data, .data, .data, .sentinel, .sentinel], laidTests := true, laidLooks := .later }
def FnTagOfUptoCardSaid : Prop := Claim7.holds Tryd.pinned (.plain (OpenSpec.upto fnTagOfSpec)) fnTagOfUptoCard
end Rows
end Go.Proofs.YtdgdekfdfcaheaaDoor
