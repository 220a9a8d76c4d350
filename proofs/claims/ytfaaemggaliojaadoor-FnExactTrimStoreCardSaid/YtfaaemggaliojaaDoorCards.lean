/-
  DERIVED. GIVEN WITH THE SEED: THE CARDS: each row of YtfaaemggaliojaaDoorRows.lean that lists a variable, with what it lists TIED to the program's text (the seventh form; the later family's looks); each row that meets fmt, with fmt's text TOLD by the authors' own Lean function (tested against real Go, not proved from fmt's source: count such statements apart). THE CARD IS WHAT COUNTS. Prove the row's statement (the work); the ties are given (YtfaaemggaliojaaDoorTie.lean); close each card by the builder's one call (the guide's Derived/Test/ToyasCard.lean, 'card_holds'). Laid BY PROGRAM, IN A SANDBOX (cutbox-door.mjs). By AI agents, Wed Nov 11 2026. No macro, syntax, notation, axiom, sorry.
-/
import Derived.Test.YtfaaemggaliojaaDoorRows
import GoSem.ClaimSeven
namespace Go.Proofs.YtfaaemggaliojaaDoor
namespace Rows

/-- THE TIED CARD OF 'laws.FnExactSelectItems'. -/
def fnExactSelectItemsCard : Claim7 := { stood := { row := fnExactSelectItemsRow, standIns := [], harness := (true, "c8c36d683967ff269de0eeff494d358ebc25282c01dc38e04ff019018df92805"), looks := false }, kinds := [], alts := [], laidByText := true, laidKinds := [.data, .data, .data], laidTests := true, laidLooks := .later }
def FnExactSelectItemsCardSaid : Prop := Claim7.holds Tryd.pinned (.plain (OpenSpec.ofChange fnExactSelectItemsSpec)) fnExactSelectItemsCard

/-- THE TIED CARD OF 'laws.FnExactTrimStore'. -/
def fnExactTrimStoreCard : Claim7 := { stood := { row := fnExactTrimStoreRow, standIns := [], harness := (true, "c8c36d683967ff269de0eeff494d358ebc25282c01dc38e04ff019018df92805"), looks := false }, kinds := [], alts := [], laidByText := true, laidKinds := [.data, .data, .data], laidTests := true, laidLooks := .later }
def FnExactTrimStoreCardSaid : Prop := Claim7.holds Tryd.pinned (.plain (OpenSpec.ofChange fnExactTrimStoreSpec)) fnExactTrimStoreCard

/-- THE SECOND FORM's CARD OF 'laws.FnExactSelectItems'. -/
def fnExactSelectItemsUptoCard : Claim7 := { stood := { row := fnExactSelectItemsUptoRow, standIns := [], harness := (true, "c8c36d683967ff269de0eeff494d358ebc25282c01dc38e04ff019018df92805"), looks := false }, kinds := [], alts := [], laidByText := true, laidKinds := [.data, .data, .data], laidTests := true, laidLooks := .later }
def FnExactSelectItemsUptoCardSaid : Prop := Claim7.holds Tryd.pinned (.plain (OpenSpec.upto fnExactSelectItemsSpec)) fnExactSelectItemsUptoCard

/-- THE SECOND FORM's CARD OF 'laws.FnExactTrimStore'. -/
def fnExactTrimStoreUptoCard : Claim7 := { stood := { row := fnExactTrimStoreUptoRow, standIns := [], harness := (true, "c8c36d683967ff269de0eeff494d358ebc25282c01dc38e04ff019018df92805"), looks := false }, kinds := [], alts := [], laidByText := true, laidKinds := [.data, .data, .data], laidTests := true, laidLooks := .later }
def FnExactTrimStoreUptoCardSaid : Prop := Claim7.holds Tryd.pinned (.plain (OpenSpec.upto fnExactTrimStoreSpec)) fnExactTrimStoreUptoCard
end Rows
end Go.Proofs.YtfaaemggaliojaaDoor
