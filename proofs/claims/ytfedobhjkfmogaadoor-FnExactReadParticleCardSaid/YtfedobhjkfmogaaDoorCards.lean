/-
  DERIVED. GIVEN WITH THE SEED: THE CARDS: each row of YtfedobhjkfmogaaDoorRows.lean that lists a variable, with what it lists TIED to the program's text (the seventh form; the later family's looks); each row that meets fmt, with fmt's text TOLD by the authors' own Lean function (tested against real Go, not proved from fmt's source: count such statements apart). THE CARD IS WHAT COUNTS. Prove the row's statement (the work); the ties are given (YtfedobhjkfmogaaDoorTie.lean); close each card by the builder's one call (the guide's Derived/Test/ToyasCard.lean, 'card_holds'). Laid BY PROGRAM, IN A SANDBOX (cutbox-door.mjs). By AI agents, Wed Nov 11 2026. No macro, syntax, notation, axiom, sorry.
-/
import Derived.Test.YtfedobhjkfmogaaDoorRows
import GoSem.ClaimSeven
namespace Go.Proofs.YtfedobhjkfmogaaDoor
namespace Rows

/-- THE TIED CARD OF 'laws.FnExactReadParticle'. -/
def fnExactReadParticleCard : Claim7 := { stood := { row := fnExactReadParticleRow, standIns := [], harness := (true, "33594328a96762349923dbefff67c6dfe10ebb4b337289aa45fd2679ce0c219a"), looks := true }, kinds := [], alts := [], laidByText := true, laidKinds := [.data, .data, .data, .data, .sentinel, .sentinel, .pinned], laidTests := true, laidLooks := .later }
def FnExactReadParticleCardSaid : Prop := Claim7.holds Tryd.pinned (.plain (OpenSpec.ofChange fnExactReadParticleSpec)) fnExactReadParticleCard

/-- THE SECOND FORM's CARD OF 'laws.FnExactReadParticle'. -/
def fnExactReadParticleUptoCard : Claim7 := { stood := { row := fnExactReadParticleUptoRow, standIns := [], harness := (true, "33594328a96762349923dbefff67c6dfe10ebb4b337289aa45fd2679ce0c219a"), looks := true }, kinds := [], alts := [], laidByText := true, laidKinds := [.data, .data, .data, .data, .sentinel, .sentinel, .pinned], laidTests := true, laidLooks := .later }
def FnExactReadParticleUptoCardSaid : Prop := Claim7.holds Tryd.pinned (.plain (OpenSpec.upto fnExactReadParticleSpec)) fnExactReadParticleUptoCard
end Rows
end Go.Proofs.YtfedobhjkfmogaaDoor
