/-
  DERIVED. GIVEN WITH THE SEED: THE CARDS: each row of YtfaaemggaliojaaGreatDoorRows.lean that lists a variable, with what it lists TIED to the program's text (the seventh form; the later family's looks); each row that meets fmt, with fmt's text TOLD by the authors' own Lean function (tested against real Go, not proved from fmt's source: count such statements apart). THE CARD IS WHAT COUNTS. Prove the row's statement (the work); the ties are given (YtfaaemggaliojaaGreatDoorTie.lean); close each card by the builder's one call (the guide's Derived/Test/ToyasCard.lean, 'card_holds'). Laid BY PROGRAM, IN A SANDBOX (cutbox-door.mjs). By AI agents, Wed Nov 11 2026. No macro, syntax, notation, axiom, sorry.
-/
import Derived.Test.YtfaaemggaliojaaGreatDoorRows
import GoSem.ClaimSeven
namespace Go.Proofs.YtfaaemggaliojaaGreatDoor
namespace Rows

/-- THE TIED CARD OF 'laws.FnExactSelectStore'. -/
def fnExactSelectStoreCard : Claim7 := { stood := { row := fnExactSelectStoreRow, standIns := [], harness := (true, "ee9d3e31915a8d29ed03441500230ba5b1682bfdca92169fb6cc95d3ef8f68a7"), looks := false }, kinds := [], alts := [], laidByText := true, laidKinds := [.data, .data, .data], laidTests := true, laidLooks := .later }
def FnExactSelectStoreCardSaid : Prop := Claim7.holds Tryz.pinned (.plain (OpenSpec.ofChange fnExactSelectStoreSpec)) fnExactSelectStoreCard

/-- THE SECOND FORM's CARD OF 'laws.FnExactSelectStore'. -/
def fnExactSelectStoreUptoCard : Claim7 := { stood := { row := fnExactSelectStoreUptoRow, standIns := [], harness := (true, "ee9d3e31915a8d29ed03441500230ba5b1682bfdca92169fb6cc95d3ef8f68a7"), looks := false }, kinds := [], alts := [], laidByText := true, laidKinds := [.data, .data, .data], laidTests := true, laidLooks := .later }
def FnExactSelectStoreUptoCardSaid : Prop := Claim7.holds Tryz.pinned (.plain (OpenSpec.upto fnExactSelectStoreSpec)) fnExactSelectStoreUptoCard
end Rows
end Go.Proofs.YtfaaemggaliojaaGreatDoor
