/-
  DERIVED. GIVEN WITH THE SEED: THE CARDS: each row of YtdkjaffnkgbcnaaGreatDoorRows.lean that lists a variable, with what it lists TIED to the program's text (the seventh form; the later family's looks); each row that meets fmt, with fmt's text TOLD by the authors' own Lean function (tested against real Go, not proved from fmt's source: count such statements apart). THE CARD IS WHAT COUNTS. Prove the row's statement (the work); the ties are given (YtdkjaffnkgbcnaaGreatDoorTie.lean); close each card by the builder's one call (the guide's Derived/Test/ToyasCard.lean, 'card_holds'). Laid BY PROGRAM, IN A SANDBOX (cutbox-door.mjs). By AI agents, Wed Nov 11 2026. No macro, syntax, notation, axiom, sorry.
-/
import Derived.Test.YtdkjaffnkgbcnaaGreatDoorRows
import GoSem.ClaimSeven
namespace Go.Proofs.YtdkjaffnkgbcnaaGreatDoor
namespace Rows

/-- THE TIED CARD OF 'laws.FnExactReadCloud'. -/
def fnExactReadCloudCard : Claim7 := { stood := { row := fnExactReadCloudRow, standIns := [], harness := (true, "1e1ba8ce22a13e6e4108fdd9904127e0a1a054d991fe9c1e72376f023f48471d"), looks := true }, kinds := [], alts := [], laidByText := true, laidKinds := [.data, .data, .data, .data, .sentinel, .sentinel, .pinned], laidTests := true, laidLooks := .later }
def FnExactReadCloudCardSaid : Prop := Claim7.holds Tryz.pinned (.plain (OpenSpec.ofChange fnExactReadCloudSpec)) fnExactReadCloudCard

/-- THE SECOND FORM's CARD OF 'laws.FnExactReadCloud'. -/
def fnExactReadCloudUptoCard : Claim7 := { stood := { row := fnExactReadCloudUptoRow, standIns := [], harness := (true, "1e1ba8ce22a13e6e4108fdd9904127e0a1a054d991fe9c1e72376f023f48471d"), looks := true }, kinds := [], alts := [], laidByText := true, laidKinds := [.data, .data, .data, .data, .sentinel, .sentinel, .pinned], laidTests := true, laidLooks := .later }
def FnExactReadCloudUptoCardSaid : Prop := Claim7.holds Tryz.pinned (.plain (OpenSpec.upto fnExactReadCloudSpec)) fnExactReadCloudUptoCard
end Rows
end Go.Proofs.YtdkjaffnkgbcnaaGreatDoor
