/-
  DERIVED. GIVEN WITH THE SEED: THE CARDS: each row of YtjdjkggdgddhdaaGreatDoorRows.lean that lists a variable, with what it lists TIED to the program's text (the seventh form; the later family's looks); each row that meets fmt, with fmt's text TOLD by the authors' own Lean function (tested against real Go, not proved from fmt's source: count such statements apart). THE CARD IS WHAT COUNTS. Prove the row's statement (the work); the ties are given (YtjdjkggdgddhdaaGreatDoorTie.lean); close each card by the builder's one call (the guide's Derived/Test/ToyasCard.lean, 'card_holds'). Laid BY PROGRAM, IN A SANDBOX (cutbox-door.mjs). By AI agents, Wed Nov 11 2026. No macro, syntax, notation, axiom, sorry.
-/
import Derived.Test.YtjdjkggdgddhdaaGreatDoorRows
import GoSem.ClaimSeven
namespace Go.Proofs.YtjdjkggdgddhdaaGreatDoor
namespace Rows

/-- THE TIED CARD OF 'laws.FnSelectStore'. -/
def fnSelectStoreCard : Claim7 := { stood := { row := fnSelectStoreRow, standIns := [], harness := (true, "5dd943e2aca912b3f37c6e6fb5454e8e79fd779d57de138b53be9cd693993b32"), looks := false }, kinds := [], alts := [], laidByText := true, laidKinds := [.data, .data, .data], laidTests := true, laidLooks := .later }
def FnSelectStoreCardSaid : Prop := Claim7.holds Tryz.pinned (.plain (OpenSpec.ofChange fnSelectStoreSpec)) fnSelectStoreCard

/-- THE SECOND FORM's CARD OF 'laws.FnSelectStore'. -/
def fnSelectStoreUptoCard : Claim7 := { stood := { row := fnSelectStoreUptoRow, standIns := [], harness := (true, "5dd943e2aca912b3f37c6e6fb5454e8e79fd779d57de138b53be9cd693993b32"), looks := false }, kinds := [], alts := [], laidByText := true, laidKinds := [.data, .data, .data], laidTests := true, laidLooks := .later }
def FnSelectStoreUptoCardSaid : Prop := Claim7.holds Tryz.pinned (.plain (OpenSpec.upto fnSelectStoreSpec)) fnSelectStoreUptoCard
end Rows
end Go.Proofs.YtjdjkggdgddhdaaGreatDoor
