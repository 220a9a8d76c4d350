/-
  DERIVED. GIVEN WITH THE SEED: THE CARDS: each row of YtjdjkggdgddhdaaDoorRows.lean that lists a variable, with what it lists TIED to the program's text (the seventh form; the later family's looks); each row that meets fmt, with fmt's text TOLD by the authors' own Lean function (tested against real Go, not proved from fmt's source: count such statements apart). THE CARD IS WHAT COUNTS. Prove the row's statement (the work); the ties are given (YtjdjkggdgddhdaaDoorTie.lean); close each card by the builder's one call (the guide's Derived/Test/ToyasCard.lean, 'card_holds'). Laid BY PROGRAM, IN A SANDBOX (cutbox-door.mjs). By AI agents, Wed Nov 11 2026. No macro, syntax, notation, axiom, sorry.
-/
import Derived.Test.YtjdjkggdgddhdaaDoorRows
import GoSem.ClaimSeven
namespace Go.Proofs.YtjdjkggdgddhdaaDoor
namespace Rows

/-- THE TIED CARD OF 'laws.FnSelectItemsMore'. -/
def fnSelectItemsMoreCard : Claim7 := { stood := { row := fnSelectItemsMoreRow, standIns := [], harness := (true, "a1d423d521273ae56a61b9e8d9d643dfef63ab847b8d36b508aa1ec456500193"), looks := false }, kinds := [], alts := [], laidByText := true, laidKinds := [.data, .data, .data], laidTests := true, laidLooks := .later }
def FnSelectItemsMoreCardSaid : Prop := Claim7.holds Tryd.pinned (.plain (OpenSpec.ofChange fnSelectItemsMoreSpec)) fnSelectItemsMoreCard

/-- THE SECOND FORM's CARD OF 'laws.FnSelectItemsMore'. -/
def fnSelectItemsMoreUptoCard : Claim7 := { stood := { row := fnSelectItemsMoreUptoRow, standIns := [], harness := (true, "a1d423d521273ae56a61b9e8d9d643dfef63ab847b8d36b508aa1ec456500193"), looks := false }, kinds := [], alts := [], laidByText := true, laidKinds := [.data, .data, .data], laidTests := true, laidLooks := .later }
def FnSelectItemsMoreUptoCardSaid : Prop := Claim7.holds Tryd.pinned (.plain (OpenSpec.upto fnSelectItemsMoreSpec)) fnSelectItemsMoreUptoCard
end Rows
end Go.Proofs.YtjdjkggdgddhdaaDoor
