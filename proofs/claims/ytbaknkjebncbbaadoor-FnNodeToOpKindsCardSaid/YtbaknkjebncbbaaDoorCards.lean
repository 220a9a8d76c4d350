/-
  DERIVED. GIVEN WITH THE SEED: THE CARDS: each row of YtbaknkjebncbbaaDoorRows.lean that lists a variable, with what it lists TIED to the program's text (the seventh form; the later family's looks); each row that meets fmt, with fmt's text TOLD by the authors' own Lean function (tested against real Go, not proved from fmt's source: count such statements apart). THE CARD IS WHAT COUNTS. Prove the row's statement (the work); the ties are given (YtbaknkjebncbbaaDoorTie.lean); close each card by the builder's one call (the guide's Derived/Test/ToyasCard.lean, 'card_holds'). Laid BY PROGRAM, IN A SANDBOX (cutbox-door.mjs). By AI agents, Wed Nov 11 2026. No macro, syntax, notation, axiom, sorry.
-/
import Derived.Test.YtbaknkjebncbbaaDoorRows
import GoSem.ClaimSeven
namespace Go.Proofs.YtbaknkjebncbbaaDoor
namespace Rows

/-- THE TIED CARD OF 'laws.FnFitsShapeMore'. -/
def fnFitsShapeMoreCard : Claim7 := { stood := { row := fnFitsShapeMoreRow, standIns := [], harness := (true, "597eb6e95a41f56322a5e8e1e7d20a5fefcd91737d25fc686491ec49f19cb1dc"), looks := false }, kinds := [], alts := [], laidByText := true, laidKinds := [.data, .data, .data], laidTests := true, laidLooks := .later }
def FnFitsShapeMoreCardSaid : Prop := Claim7.holds Tryd.pinned (.plain (OpenSpec.ofChange fnFitsShapeMoreSpec)) fnFitsShapeMoreCard

/-- THE TIED CARD OF 'laws.FnNodeToOpKinds'. -/
def fnNodeToOpKindsCard : Claim7 := { stood := { row := fnNodeToOpKindsRow, standIns := [], harness := (true, "597eb6e95a41f56322a5e8e1e7d20a5fefcd91737d25fc686491ec49f19cb1dc"), looks := false }, kinds := [], alts := [], laidByText := true, laidKinds := [.data, .data, .data], laidTests := true, laidLooks := .later }
def FnNodeToOpKindsCardSaid : Prop := Claim7.holds Tryd.pinned (.plain (OpenSpec.ofChange fnNodeToOpKindsSpec)) fnNodeToOpKindsCard

/-- THE SECOND FORM's CARD OF 'laws.FnFitsShapeMore'. -/
def fnFitsShapeMoreUptoCard : Claim7 := { stood := { row := fnFitsShapeMoreUptoRow, standIns := [], harness := (true, "597eb6e95a41f56322a5e8e1e7d20a5fefcd91737d25fc686491ec49f19cb1dc"), looks := false }, kinds := [], alts := [], laidByText := true, laidKinds := [.data, .data, .data], laidTests := true, laidLooks := .later }
def FnFitsShapeMoreUptoCardSaid : Prop := Claim7.holds Tryd.pinned (.plain (OpenSpec.upto fnFitsShapeMoreSpec)) fnFitsShapeMoreUptoCard

/-- THE SECOND FORM's CARD OF 'laws.FnNodeToOpKinds'. -/
def fnNodeToOpKindsUptoCard : Claim7 := { stood := { row := fnNodeToOpKindsUptoRow, standIns := [], harness := (true, "597eb6e95a41f56322a5e8e1e7d20a5fefcd91737d25fc686491ec49f19cb1dc"), looks := false }, kinds := [], alts := [], laidByText := true, laidKinds := [.data, .data, .data], laidTests := true, laidLooks := .later }
def FnNodeToOpKindsUptoCardSaid : Prop := Claim7.holds Tryd.pinned (.plain (OpenSpec.upto fnNodeToOpKindsSpec)) fnNodeToOpKindsUptoCard
end Rows
end Go.Proofs.YtbaknkjebncbbaaDoor
