/-
  DERIVED. GIVEN WITH THE SEED: THE CARDS: each row of YtmgheiagnleeiaaDoorRows.lean that lists a variable, with what it lists TIED to the program's text (the seventh form; the later family's looks); each row that meets fmt, with fmt's text TOLD by the authors' own Lean function (tested against real Go, not proved from fmt's source: count such statements apart). THE CARD IS WHAT COUNTS. Prove the row's statement (the work); the ties are given (YtmgheiagnleeiaaDoorTie.lean); close each card by the builder's one call (the guide's Derived/Test/ToyasCard.lean, 'card_holds'). Laid BY PROGRAM, IN A SANDBOX (cutbox-door.mjs). By AI agents, Wed Nov 11 2026. No macro, syntax, notation, axiom, sorry.
-/
import Derived.Test.YtmgheiagnleeiaaDoorRows
import GoSem.ClaimSeven
namespace Go.Proofs.YtmgheiagnleeiaaDoor
namespace Rows

/-- THE TIED CARD OF 'laws.FnExactFormatRequest'. -/
def fnExactFormatRequestCard : Claim7 := { stood := { row := fnExactFormatRequestRow, standIns := [], harness := (true, "87fd743de4a574118b2ba600807d5d44e934f67f0660367d51fdba18bd0a31f1"), looks := false }, kinds := [], alts := [], laidByText := true, laidKinds := [.data, .data, .data], laidTests := true, laidLooks := .later }
def FnExactFormatRequestCardSaid : Prop := Claim7.holds Tryd.pinned (.plain (OpenSpec.ofChange fnExactFormatRequestSpec)) fnExactFormatRequestCard

/-- THE SECOND FORM's CARD OF 'laws.FnExactFormatRequest'. -/
def fnExactFormatRequestUptoCard : Claim7 := { stood := { row := fnExactFormatRequestUptoRow, standIns := [], harness := (true, "87fd743de4a574118b2ba600807d5d44e934f67f0660367d51fdba18bd0a31f1"), looks := false }, kinds := [], alts := [], laidByText := true, laidKinds := [.data, .data, .data], laidTests := true, laidLooks := .later }
def FnExactFormatRequestUptoCardSaid : Prop := Claim7.holds Tryd.pinned (.plain (OpenSpec.upto fnExactFormatRequestSpec)) fnExactFormatRequestUptoCard
end Rows
end Go.Proofs.YtmgheiagnleeiaaDoor
