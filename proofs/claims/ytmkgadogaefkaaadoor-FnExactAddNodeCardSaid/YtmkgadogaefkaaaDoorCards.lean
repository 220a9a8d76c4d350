/-
  DERIVED. GIVEN WITH THE SEED: THE CARDS: each row of YtmkgadogaefkaaaDoorRows.lean that lists a variable, with what it lists TIED to the program's text (the seventh form; the later family's looks); each row that meets fmt, with fmt's text TOLD by the authors' own Lean function (tested against real Go, not proved from fmt's source: count such statements apart). THE CARD IS WHAT COUNTS. Prove the row's statement (the work); the ties are given (YtmkgadogaefkaaaDoorTie.lean); close each card by the builder's one call (the guide's Derived/Test/ToyasCard.lean, 'card_holds'). Laid BY PROGRAM, IN A SANDBOX (cutbox-door.mjs). By AI agents, Wed Nov 11 2026. No macro, syntax, notation, axiom, sorry.
-/
import Derived.Test.YtmkgadogaefkaaaDoorRows
import GoSem.ClaimSeven
namespace Go.Proofs.YtmkgadogaefkaaaDoor
namespace Rows

/-- THE TIED CARD OF 'laws.FnExactAddNode'. -/
def fnExactAddNodeCard : Claim7 := { stood := { row := fnExactAddNodeRow, standIns := [], harness := (true, "3e2eff1517c0209f9cde465a7ded81977c1b392eb2ba9462ae45c990c64ffc54"), looks := false }, kinds := [], alts := [], laidByText := true, laidKinds := [.data, .data, .data], laidTests := true, laidLooks := .later }
def FnExactAddNodeCardSaid : Prop := Claim7.holds Tryd.pinned (.plain (OpenSpec.ofChange fnExactAddNodeSpec)) fnExactAddNodeCard

/-- THE SECOND FORM's CARD OF 'laws.FnExactAddNode'. -/
def fnExactAddNodeUptoCard : Claim7 := { stood := { row := fnExactAddNodeUptoRow, standIns := [], harness := (true, "3e2eff1517c0209f9cde465a7ded81977c1b392eb2ba9462ae45c990c64ffc54"), looks := false }, kinds := [], alts := [], laidByText := true, laidKinds := [.data, .data, .data], laidTests := true, laidLooks := .later }
def FnExactAddNodeUptoCardSaid : Prop := Claim7.holds Tryd.pinned (.plain (OpenSpec.upto fnExactAddNodeSpec)) fnExactAddNodeUptoCard
end Rows
end Go.Proofs.YtmkgadogaefkaaaDoor
