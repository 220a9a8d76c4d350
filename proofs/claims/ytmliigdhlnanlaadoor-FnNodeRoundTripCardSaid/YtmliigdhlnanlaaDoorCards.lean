/-
  DERIVED. GIVEN WITH THE SEED: THE CARDS: each row of YtmliigdhlnanlaaDoorRows.lean that lists a variable, with what it lists TIED to the program's text (the seventh form; the later family's looks); each row that meets fmt, with fmt's text TOLD by the authors' own Lean function (tested against real Go, not proved from fmt's source: count such statements apart). THE CARD IS WHAT COUNTS. Prove the row's statement (the work); the ties are given (YtmliigdhlnanlaaDoorTie.lean); close each card by the builder's one call (the guide's Derived/Test/ToyasCard.lean, 'card_holds'). Laid BY PROGRAM, IN A SANDBOX (cutbox-door.mjs). By AI agents, Wed Nov 11 2026. No macro, syntax, notation, axiom, sorry.
-/
import Derived.Test.YtmliigdhlnanlaaDoorRows
import GoSem.ClaimSeven
namespace Go.Proofs.YtmliigdhlnanlaaDoor
namespace Rows

/-- THE TIED CARD OF 'laws.FnNodeRoundTrip'. -/
def fnNodeRoundTripCard : Claim7 := { stood := { row := fnNodeRoundTripRow, standIns := [], harness := (true, "31a889eb317cf0687862c145c5f32dc184fc44b3f2a3ba899d6aa21237af485a"), looks := true }, kinds := [], alts := [], laidByText := true, laidKinds := [.data, .data, .data, .sentinel, .sentinel], laidTests := true, laidLooks := .later }
def FnNodeRoundTripCardSaid : Prop := Claim7.holds Tryd.pinned (.plain (OpenSpec.ofChange fnNodeRoundTripSpec)) fnNodeRoundTripCard

/-- THE TIED CARD OF 'laws.FnNodeCanonical'. -/
def fnNodeCanonicalCard : Claim7 := { stood := { row := fnNodeCanonicalRow, standIns := [], harness := (true, "31a889eb317cf0687862c145c5f32dc184fc44b3f2a3ba899d6aa21237af485a"), looks := true }, kinds := [], alts := [], laidByText := true, laidKinds := [.data, .data, .data, .sentinel, .sentinel], laidTests := true, laidLooks := .later }
def FnNodeCanonicalCardSaid : Prop := Claim7.holds Tryd.pinned (.plain (OpenSpec.ofChange fnNodeCanonicalSpec)) fnNodeCanonicalCard

/-- THE TIED CARD OF 'laws.FnNodeTextSpace'. -/
def fnNodeTextSpaceCard : Claim7 := { stood := { row := fnNodeTextSpaceRow, standIns := [], harness := (true, "31a889eb317cf0687862c145c5f32dc184fc44b3f2a3ba899d6aa21237af485a"), looks := true }, kinds := [], alts := [], laidByText := true, laidKinds := [.data, .data, .data, .sentinel, .sentinel], laidTests := true, laidLooks := .later }
def FnNodeTextSpaceCardSaid : Prop := Claim7.holds Tryd.pinned (.plain (OpenSpec.ofChange fnNodeTextSpaceSpec)) fnNodeTextSpaceCard

/-- THE TIED CARD OF 'laws.FnTagOf'. -/
def fnTagOfCard : Claim7 := { stood := { row := fnTagOfRow, standIns := [], harness := (true, "31a889eb317cf0687862c145c5f32dc184fc44b3f2a3ba899d6aa21237af485a"), looks := true }, kinds := [], alts := [], laidByText := true, laidKinds := [.data, .data, .data, .sentinel, .sentinel], laidTests := true, laidLooks := .later }
def FnTagOfCardSaid : Prop := Claim7.holds Tryd.pinned (.plain (OpenSpec.ofChange fnTagOfSpec)) fnTagOfCard

/-- THE TIED CARD OF 'laws.FnExactParseNode'. -/
def fnExactParseNodeCard : Claim7 := { stood := { row := fnExactParseNodeRow, standIns := [], harness := (true, "31a889eb317cf0687862c145c5f32dc184fc44b3f2a3ba899d6aa21237af485a"), looks := true }, kinds := [], alts := [], laidByText := true, laidKinds := [.data, .data, .data, .sentinel, .sentinel], laidTests := true, laidLooks := .later }
def FnExactParseNodeCardSaid : Prop := Claim7.holds Tryd.pinned (.plain (OpenSpec.ofChange fnExactParseNodeSpec)) fnExactParseNodeCard

/-- THE SECOND FORM's CARD OF 'laws.FnNodeRoundTrip'. -/
def fnNodeRoundTripUptoCard : Claim7 := { stood := { row := fnNodeRoundTripUptoRow, standIns := [], harness := (true, "31a889eb317cf0687862c145c5f32dc184fc44b3f2a3ba899d6aa21237af485a"), looks := true }, kinds := [], alts := [], laidByText := true, laidKinds := [.data, .data, .data, .sentinel, .sentinel], laidTests := true, laidLooks := .later }
def FnNodeRoundTripUptoCardSaid : Prop := Claim7.holds Tryd.pinned (.plain (OpenSpec.upto fnNodeRoundTripSpec)) fnNodeRoundTripUptoCard

/-- THE SECOND FORM's CARD OF 'laws.FnNodeCanonical'. -/
def fnNodeCanonicalUptoCard : Claim7 := { stood := { row := fnNodeCanonicalUptoRow, standIns := [], harness := (true, "31a889eb317cf0687862c145c5f32dc184fc44b3f2a3ba899d6aa21237af485a"), looks := true }, kinds := [], alts := [], laidByText := true, laidKinds := [.data, .data, .data, .sentinel, .sentinel], laidTests := true, laidLooks := .later }
def FnNodeCanonicalUptoCardSaid : Prop := Claim7.holds Tryd.pinned (.plain (OpenSpec.upto fnNodeCanonicalSpec)) fnNodeCanonicalUptoCard

/-- THE SECOND FORM's CARD OF 'laws.FnNodeTextSpace'. -/
def fnNodeTextSpaceUptoCard : Claim7 := { stood := { row := fnNodeTextSpaceUptoRow, standIns := [], harness := (true, "31a889eb317cf0687862c145c5f32dc184fc44b3f2a3ba899d6aa21237af485a"), looks := true }, kinds := [], alts := [], laidByText := true, laidKinds := [.data, .data, .data, .sentinel, .sentinel], laidTests := true, laidLooks := .later }
def FnNodeTextSpaceUptoCardSaid : Prop := Claim7.holds Tryd.pinned (.plain (OpenSpec.upto fnNodeTextSpaceSpec)) fnNodeTextSpaceUptoCard

/-- THE SECOND FORM's CARD OF 'laws.FnTagOf'. -/
def fnTagOfUptoCard : Claim7 := { stood := { row := fnTagOfUptoRow, standIns := [], harness := (true, "31a889eb317cf0687862c145c5f32dc184fc44b3f2a3ba899d6aa21237af485a"), looks := true }, kinds := [], alts := [], laidByText := true, laidKinds := [.data, .data, .data, .sentinel, .sentinel], laidTests := true, laidLooks := .later }
def FnTagOfUptoCardSaid : Prop := Claim7.holds Tryd.pinned (.plain (OpenSpec.upto fnTagOfSpec)) fnTagOfUptoCard

/-- THE SECOND FORM's CARD OF 'laws.FnExactParseNode'. -/
def fnExactParseNodeUptoCard : Claim7 := { stood := { row := fnExactParseNodeUptoRow, standIns := [], harness := (true, "31a889eb317cf0687862c145c5f32dc184fc44b3f2a3ba899d6aa21237af485a"), looks := true }, kinds := [], alts := [], laidByText := true, laidKinds := [.data, .data, .data, .sentinel, .sentinel], laidTests := true, laidLooks := .later }
def FnExactParseNodeUptoCardSaid : Prop := Claim7.holds Tryd.pinned (.plain (OpenSpec.upto fnExactParseNodeSpec)) fnExactParseNodeUptoCard
end Rows
end Go.Proofs.YtmliigdhlnanlaaDoor
