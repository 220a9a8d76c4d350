/-
  DERIVED. GIVEN WITH THE SEED: THE CARDS: each row of YtahppankhidkeaaDoorRows.lean that lists a variable, with what it lists TIED to the program's text (the seventh form; the later family's looks); each row that meets fmt, with fmt's text TOLD by the authors' own Lean function (tested against real Go, not proved from fmt's source: count such statements apart). THE CARD IS WHAT COUNTS. Prove the row's statement (the work); the ties are given (YtahppankhidkeaaDoorTie.lean); close each card by the builder's one call (the guide's Derived/Test/ToyasCard.lean, 'card_holds'). Laid BY PROGRAM, IN A SANDBOX (cutbox-door.mjs). By AI agents, Wed Nov 11 2026. No macro, syntax, notation, axiom, sorry.
-/
import Derived.Test.YtahppankhidkeaaDoorRows
import GoSem.ClaimSeven
namespace Go.Proofs.YtahppankhidkeaaDoor
namespace Rows

/-- THE TIED CARD OF 'laws.FnMatchFilterWhole'. -/
def fnMatchFilterWholeCard : Claim7 := { stood := { row := fnMatchFilterWholeRow, standIns := [], harness := (true, "07f21b9035228d015e0c276028370ad74275b8051cde51062e65c7b7b61f2d51"), looks := false }, kinds := [], alts := [], laidByText := true, laidKinds := [.data, .data, .data], laidTests := true, laidLooks := .later }
def FnMatchFilterWholeCardSaid : Prop := Claim7.holds Tryd.pinned (.plain (OpenSpec.ofChange fnMatchFilterWholeSpec)) fnMatchFilterWholeCard

/-- THE TIED CARD OF 'laws.FnMatchFilter'. -/
def fnMatchFilterCard : Claim7 := { stood := { row := fnMatchFilterRow, standIns := [], harness := (true, "07f21b9035228d015e0c276028370ad74275b8051cde51062e65c7b7b61f2d51"), looks := false }, kinds := [], alts := [], laidByText := true, laidKinds := [.data, .data, .data], laidTests := true, laidLooks := .later }
def FnMatchFilterCardSaid : Prop := Claim7.holds Tryd.pinned (.plain (OpenSpec.ofChange fnMatchFilterSpec)) fnMatchFilterCard

/-- THE TIED CARD OF 'laws.FnMatchFilterThree'. -/
def fnMatchFilterThreeCard : Claim7 := { stood := { row := fnMatchFilterThreeRow, standIns := [], harness := (true, "07f21b9035228d015e0c276028370ad74275b8051cde51062e65c7b7b61f2d51"), looks := false }, kinds := [], alts := [], laidByText := true, laidKinds := [.data, .data, .data], laidTests := true, laidLooks := .later }
def FnMatchFilterThreeCardSaid : Prop := Claim7.holds Tryd.pinned (.plain (OpenSpec.ofChange fnMatchFilterThreeSpec)) fnMatchFilterThreeCard

/-- THE TIED CARD OF 'laws.FnSelectItems'. -/
def fnSelectItemsCard : Claim7 := { stood := { row := fnSelectItemsRow, standIns := [], harness := (true, "07f21b9035228d015e0c276028370ad74275b8051cde51062e65c7b7b61f2d51"), looks := false }, kinds := [], alts := [], laidByText := true, laidKinds := [.data, .data, .data], laidTests := true, laidLooks := .later }
def FnSelectItemsCardSaid : Prop := Claim7.holds Tryd.pinned (.plain (OpenSpec.ofChange fnSelectItemsSpec)) fnSelectItemsCard

/-- THE TIED CARD OF 'laws.FnSelectItemsOrder'. -/
def fnSelectItemsOrderCard : Claim7 := { stood := { row := fnSelectItemsOrderRow, standIns := [], harness := (true, "07f21b9035228d015e0c276028370ad74275b8051cde51062e65c7b7b61f2d51"), looks := false }, kinds := [], alts := [], laidByText := true, laidKinds := [.data, .data, .data], laidTests := true, laidLooks := .later }
def FnSelectItemsOrderCardSaid : Prop := Claim7.holds Tryd.pinned (.plain (OpenSpec.ofChange fnSelectItemsOrderSpec)) fnSelectItemsOrderCard

/-- THE TIED CARD OF 'laws.FnSelectItemsMore'. -/
def fnSelectItemsMoreCard : Claim7 := { stood := { row := fnSelectItemsMoreRow, standIns := [], harness := (true, "07f21b9035228d015e0c276028370ad74275b8051cde51062e65c7b7b61f2d51"), looks := false }, kinds := [], alts := [], laidByText := true, laidKinds := [.data, .data, .data], laidTests := true, laidLooks := .later }
def FnSelectItemsMoreCardSaid : Prop := Claim7.holds Tryd.pinned (.plain (OpenSpec.ofChange fnSelectItemsMoreSpec)) fnSelectItemsMoreCard

/-- THE SECOND FORM's CARD OF 'laws.FnMatchFilterWhole'. -/
def fnMatchFilterWholeUptoCard : Claim7 := { stood := { row := fnMatchFilterWholeUptoRow, standIns := [], harness := (true, "07f21b9035228d015e0c276028370ad74275b8051cde51062e65c7b7b61f2d51"), looks := false }, kinds := [], alts := [], laidByText := true, laidKinds := [.data, .data, .data], laidTests := true, laidLooks := .later }
def FnMatchFilterWholeUptoCardSaid : Prop := Claim7.holds Tryd.pinned (.plain (OpenSpec.upto fnMatchFilterWholeSpec)) fnMatchFilterWholeUptoCard

/-- THE SECOND FORM's CARD OF 'laws.FnMatchFilter'. -/
def fnMatchFilterUptoCard : Claim7 := { stood := { row := fnMatchFilterUptoRow, standIns := [], harness := (true, "07f21b9035228d015e0c276028370ad74275b8051cde51062e65c7b7b61f2d51"), looks := false }, kinds := [], alts := [], laidByText := true, laidKinds := [.data, .data, .data], laidTests := true, laidLooks := .later }
def FnMatchFilterUptoCardSaid : Prop := Claim7.holds Tryd.pinned (.plain (OpenSpec.upto fnMatchFilterSpec)) fnMatchFilterUptoCard

/-- THE SECOND FORM's CARD OF 'laws.FnMatchFilterThree'. -/
def fnMatchFilterThreeUptoCard : Claim7 := { stood := { row := fnMatchFilterThreeUptoRow, standIns := [], harness := (true, "07f21b9035228d015e0c276028370ad74275b8051cde51062e65c7b7b61f2d51"), looks := false }, kinds := [], alts := [], laidByText := true, laidKinds := [.data, .data, .data], laidTests := true, laidLooks := .later }
def FnMatchFilterThreeUptoCardSaid : Prop := Claim7.holds Tryd.pinned (.plain (OpenSpec.upto fnMatchFilterThreeSpec)) fnMatchFilterThreeUptoCard

/-- THE SECOND FORM's CARD OF 'laws.FnSelectItems'. -/
def fnSelectItemsUptoCard : Claim7 := { stood := { row := fnSelectItemsUptoRow, standIns := [], harness := (true, "07f21b9035228d015e0c276028370ad74275b8051cde51062e65c7b7b61f2d51"), looks := false }, kinds := [], alts := [], laidByText := true, laidKinds := [.data, .data, .data], laidTests := true, laidLooks := .later }
def FnSelectItemsUptoCardSaid : Prop := Claim7.holds Tryd.pinned (.plain (OpenSpec.upto fnSelectItemsSpec)) fnSelectItemsUptoCard

/-- THE SECOND FORM's CARD OF 'laws.FnSelectItemsOrder'. -/
def fnSelectItemsOrderUptoCard : Claim7 := { stood := { row := fnSelectItemsOrderUptoRow, standIns := [], harness := (true, "07f21b9035228d015e0c276028370ad74275b8051cde51062e65c7b7b61f2d51"), looks := false }, kinds := [], alts := [], laidByText := true, laidKinds := [.data, .data, .data], laidTests := true, laidLooks := .later }
def FnSelectItemsOrderUptoCardSaid : Prop := Claim7.holds Tryd.pinned (.plain (OpenSpec.upto fnSelectItemsOrderSpec)) fnSelectItemsOrderUptoCard

/-- THE SECOND FORM's CARD OF 'laws.FnSelectItemsMore'. -/
def fnSelectItemsMoreUptoCard : Claim7 := { stood := { row := fnSelectItemsMoreUptoRow, standIns := [], harness := (true, "07f21b9035228d015e0c276028370ad74275b8051cde51062e65c7b7b61f2d51"), looks := false }, kinds := [], alts := [], laidByText := true, laidKinds := [.data, .data, .data], laidTests := true, laidLooks := .later }
def FnSelectItemsMoreUptoCardSaid : Prop := Claim7.holds Tryd.pinned (.plain (OpenSpec.upto fnSelectItemsMoreSpec)) fnSelectItemsMoreUptoCard
end Rows
end Go.Proofs.YtahppankhidkeaaDoor
