/-
  DERIVED. GIVEN WITH THE SEED: THE CARDS: each row of YtkalanmdpnapbaaDoorRows.lean that lists a variable, with what it lists TIED to the program's text (the seventh form; the later family's looks); each row that meets fmt, with fmt's text TOLD by the authors' own Lean function (tested against real Go, not proved from fmt's source: count such statements apart). THE CARD IS WHAT COUNTS. Prove the row's statement (the work); the ties are given (YtkalanmdpnapbaaDoorTie.lean); close each card by the builder's one call (the guide's Derived/Test/ToyasCard.lean, 'card_holds'). Laid BY PROGRAM, IN A SANDBOX (cutbox-door.mjs). By AI agents, Wed Nov 11 2026. No macro, syntax, notation, axiom, sorry.
-/
import Derived.Test.YtkalanmdpnapbaaDoorRows
import GoSem.ClaimSeven
namespace Go.Proofs.YtkalanmdpnapbaaDoor
namespace Rows

/-- THE TIED CARD OF 'laws.FnStoreSize'. -/
def fnStoreSizeCard : Claim7 := { stood := { row := fnStoreSizeRow, standIns := [], harness := (true, "e3c40a855f0690d2b7eb6a8c496bb78fb133bbba0c5524950cd781a24fccf920"), looks := false }, kinds := [], alts := [], laidByText := true, laidKinds := [.data, .data, .data], laidTests := true, laidLooks := .later }
def FnStoreSizeCardSaid : Prop := Claim7.holds Tryd.pinned (.plain (OpenSpec.ofChange fnStoreSizeSpec)) fnStoreSizeCard

/-- THE TIED CARD OF 'laws.FnStoreSizePut'. -/
def fnStoreSizePutCard : Claim7 := { stood := { row := fnStoreSizePutRow, standIns := [], harness := (true, "e3c40a855f0690d2b7eb6a8c496bb78fb133bbba0c5524950cd781a24fccf920"), looks := false }, kinds := [], alts := [], laidByText := true, laidKinds := [.data, .data, .data], laidTests := true, laidLooks := .later }
def FnStoreSizePutCardSaid : Prop := Claim7.holds Tryd.pinned (.plain (OpenSpec.ofChange fnStoreSizePutSpec)) fnStoreSizePutCard

/-- THE TIED CARD OF 'laws.FnCompareNodesText'. -/
def fnCompareNodesTextCard : Claim7 := { stood := { row := fnCompareNodesTextRow, standIns := [], harness := (true, "e3c40a855f0690d2b7eb6a8c496bb78fb133bbba0c5524950cd781a24fccf920"), looks := false }, kinds := [], alts := [], laidByText := true, laidKinds := [.data, .data, .data], laidTests := true, laidLooks := .later }
def FnCompareNodesTextCardSaid : Prop := Claim7.holds Tryd.pinned (.plain (OpenSpec.ofChange fnCompareNodesTextSpec)) fnCompareNodesTextCard

/-- THE TIED CARD OF 'laws.FnTrimStore'. -/
def fnTrimStoreCard : Claim7 := { stood := { row := fnTrimStoreRow, standIns := [], harness := (true, "e3c40a855f0690d2b7eb6a8c496bb78fb133bbba0c5524950cd781a24fccf920"), looks := false }, kinds := [], alts := [], laidByText := true, laidKinds := [.data, .data, .data], laidTests := true, laidLooks := .later }
def FnTrimStoreCardSaid : Prop := Claim7.holds Tryd.pinned (.plain (OpenSpec.ofChange fnTrimStoreSpec)) fnTrimStoreCard

/-- THE TIED CARD OF 'laws.FnTrimStoreOld'. -/
def fnTrimStoreOldCard : Claim7 := { stood := { row := fnTrimStoreOldRow, standIns := [], harness := (true, "e3c40a855f0690d2b7eb6a8c496bb78fb133bbba0c5524950cd781a24fccf920"), looks := false }, kinds := [], alts := [], laidByText := true, laidKinds := [.data, .data, .data], laidTests := true, laidLooks := .later }
def FnTrimStoreOldCardSaid : Prop := Claim7.holds Tryd.pinned (.plain (OpenSpec.ofChange fnTrimStoreOldSpec)) fnTrimStoreOldCard

/-- THE TIED CARD OF 'laws.FnTrimStoreEnough'. -/
def fnTrimStoreEnoughCard : Claim7 := { stood := { row := fnTrimStoreEnoughRow, standIns := [], harness := (true, "e3c40a855f0690d2b7eb6a8c496bb78fb133bbba0c5524950cd781a24fccf920"), looks := false }, kinds := [], alts := [], laidByText := true, laidKinds := [.data, .data, .data], laidTests := true, laidLooks := .later }
def FnTrimStoreEnoughCardSaid : Prop := Claim7.holds Tryd.pinned (.plain (OpenSpec.ofChange fnTrimStoreEnoughSpec)) fnTrimStoreEnoughCard

/-- THE SECOND FORM's CARD OF 'laws.FnStoreSize'. -/
def fnStoreSizeUptoCard : Claim7 := { stood := { row := fnStoreSizeUptoRow, standIns := [], harness := (true, "e3c40a855f0690d2b7eb6a8c496bb78fb133bbba0c5524950cd781a24fccf920"), looks := false }, kinds := [], alts := [], laidByText := true, laidKinds := [.data, .data, .data], laidTests := true, laidLooks := .later }
def FnStoreSizeUptoCardSaid : Prop := Claim7.holds Tryd.pinned (.plain (OpenSpec.upto fnStoreSizeSpec)) fnStoreSizeUptoCard

/-- THE SECOND FORM's CARD OF 'laws.FnStoreSizePut'. -/
def fnStoreSizePutUptoCard : Claim7 := { stood := { row := fnStoreSizePutUptoRow, standIns := [], harness := (true, "e3c40a855f0690d2b7eb6a8c496bb78fb133bbba0c5524950cd781a24fccf920"), looks := false }, kinds := [], alts := [], laidByText := true, laidKinds := [.data, .data, .data], laidTests := true, laidLooks := .later }
def FnStoreSizePutUptoCardSaid : Prop := Claim7.holds Tryd.pinned (.plain (OpenSpec.upto fnStoreSizePutSpec)) fnStoreSizePutUptoCard

/-- THE SECOND FORM's CARD OF 'laws.FnCompareNodesText'. -/
def fnCompareNodesTextUptoCard : Claim7 := { stood := { row := fnCompareNodesTextUptoRow, standIns := [], harness := (true, "e3c40a855f0690d2b7eb6a8c496bb78fb133bbba0c5524950cd781a24fccf920"), looks := false }, kinds := [], alts := [], laidByText := true, laidKinds := [.data, .data, .data], laidTests := true, laidLooks := .later }
def FnCompareNodesTextUptoCardSaid : Prop := Claim7.holds Tryd.pinned (.plain (OpenSpec.upto fnCompareNodesTextSpec)) fnCompareNodesTextUptoCard

/-- THE SECOND FORM's CARD OF 'laws.FnTrimStore'. -/
def fnTrimStoreUptoCard : Claim7 := { stood := { row := fnTrimStoreUptoRow, standIns := [], harness := (true, "e3c40a855f0690d2b7eb6a8c496bb78fb133bbba0c5524950cd781a24fccf920"), looks := false }, kinds := [], alts := [], laidByText := true, laidKinds := [.data, .data, .data], laidTests := true, laidLooks := .later }
def FnTrimStoreUptoCardSaid : Prop := Claim7.holds Tryd.pinned (.plain (OpenSpec.upto fnTrimStoreSpec)) fnTrimStoreUptoCard

/-- THE SECOND FORM's CARD OF 'laws.FnTrimStoreOld'. -/
def fnTrimStoreOldUptoCard : Claim7 := { stood := { row := fnTrimStoreOldUptoRow, standIns := [], harness := (true, "e3c40a855f0690d2b7eb6a8c496bb78fb133bbba0c5524950cd781a24fccf920"), looks := false }, kinds := [], alts := [], laidByText := true, laidKinds := [.data, .data, .data], laidTests := true, laidLooks := .later }
def FnTrimStoreOldUptoCardSaid : Prop := Claim7.holds Tryd.pinned (.plain (OpenSpec.upto fnTrimStoreOldSpec)) fnTrimStoreOldUptoCard

/-- THE SECOND FORM's CARD OF 'laws.FnTrimStoreEnough'. -/
def fnTrimStoreEnoughUptoCard : Claim7 := { stood := { row := fnTrimStoreEnoughUptoRow, standIns := [], harness := (true, "e3c40a855f0690d2b7eb6a8c496bb78fb133bbba0c5524950cd781a24fccf920"), looks := false }, kinds := [], alts := [], laidByText := true, laidKinds := [.data, .data, .data], laidTests := true, laidLooks := .later }
def FnTrimStoreEnoughUptoCardSaid : Prop := Claim7.holds Tryd.pinned (.plain (OpenSpec.upto fnTrimStoreEnoughSpec)) fnTrimStoreEnoughUptoCard
end Rows
end Go.Proofs.YtkalanmdpnapbaaDoor
