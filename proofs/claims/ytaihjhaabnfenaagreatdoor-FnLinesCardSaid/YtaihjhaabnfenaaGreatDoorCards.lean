/-
  DERIVED. GIVEN WITH THE SEED: THE CARDS: each row of YtaihjhaabnfenaaGreatDoorRows.lean that lists a variable, with what it lists TIED to the program's text (the seventh form; the later family's looks); each row that meets fmt, with fmt's text TOLD by the authors' own Lean function (tested against real Go, not proved from fmt's source: count such statements apart). THE CARD IS WHAT COUNTS. Prove the row's statement (the work); the ties are given (YtaihjhaabnfenaaGreatDoorTie.lean); close each card by the builder's one call (the guide's Derived/Test/ToyasCard.lean, 'card_holds'). Laid BY PROGRAM, IN A SANDBOX (cutbox-door.mjs). By AI agents, Wed Nov 11 2026. No macro, syntax, notation, axiom, sorry.
-/
import Derived.Test.YtaihjhaabnfenaaGreatDoorRows
import GoSem.ClaimSeven
namespace Go.Proofs.YtaihjhaabnfenaaGreatDoor
namespace Rows

/-- THE TIED CARD OF 'laws.FnExactClaimSession'. -/
def fnExactClaimSessionCard : Claim7 := { stood := { row := fnExactClaimSessionRow, standIns := [], harness := (true, "3741b40c892083b1898007178852194ade3603a2a232be8b26a209944ebc6f1c"), looks := true }, kinds := [], alts := [], laidByText := true, laidKinds := [.data, .data, .data, .data, .sentinel, .sentinel, .pinned], laidTests := true, laidLooks := .later }
def FnExactClaimSessionCardSaid : Prop := Claim7.holds Tryz.pinned (.plain (OpenSpec.ofChange fnExactClaimSessionSpec)) fnExactClaimSessionCard

/-- THE TIED CARD OF 'laws.FnLines'. -/
def fnLinesCard : Claim7 := { stood := { row := fnLinesRow, standIns := [], harness := (true, "3741b40c892083b1898007178852194ade3603a2a232be8b26a209944ebc6f1c"), looks := true }, kinds := [], alts := [], laidByText := true, laidKinds := [.data, .data, .data, .data, .sentinel, .sentinel, .pinned], laidTests := true, laidLooks := .later }
def FnLinesCardSaid : Prop := Claim7.holds Tryz.pinned (.plain (OpenSpec.ofChange fnLinesSpec)) fnLinesCard

/-- THE SECOND FORM's CARD OF 'laws.FnExactClaimSession'. -/
def fnExactClaimSessionUptoCard : Claim7 := { stood := { row := fnExactClaimSessionUptoRow, standIns := [], harness := (true, "3741b40c892083b1898007178852194ade3603a2a232be8b26a209944ebc6f1c"), looks := true }, kinds := [], alts := [], laidByText := true, laidKinds := [.data, .data, .data, .data, .sentinel, .sentinel, .pinned], laidTests := true, laidLooks := .later }
def FnExactClaimSessionUptoCardSaid : Prop := Claim7.holds Tryz.pinned (.plain (OpenSpec.upto fnExactClaimSessionSpec)) fnExactClaimSessionUptoCard

/-- THE SECOND FORM's CARD OF 'laws.FnLines'. -/
def fnLinesUptoCard : Claim7 := { stood := { row := fnLinesUptoRow, standIns := [], harness := (true, "3741b40c892083b1898007178852194ade3603a2a232be8b26a209944ebc6f1c"), looks := true }, kinds := [], alts := [], laidByText := true, laidKinds := [.data, .data, .data, .data, .sentinel, .sentinel, .pinned], laidTests := true, laidLooks := .later }
def FnLinesUptoCardSaid : Prop := Claim7.holds Tryz.pinned (.plain (OpenSpec.upto fnLinesSpec)) fnLinesUptoCard
end Rows
end Go.Proofs.YtaihjhaabnfenaaGreatDoor
