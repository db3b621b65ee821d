/-
  No cell of these rows narrows 'for every input' (looked for: loops, veiled, ifaces, maps, wideKeys, modest, calm, conditions, laid).
  DERIVED. THE GIVEN ROWS OF THIS SEAT. 6 by the template 'for every input the law returns true; each argument reads behind the call as it read before'; 0 by the template 'total and deterministic' (their statements: YtafaabhnkjjkcaaTotals.lean).
  GIVEN WITH THE SEED: the statements are not yours to turn. If you find one false, say at which input.
  Laid BY PROGRAM, IN A SANDBOX (cutbox-rows.mjs): the forced cells as the released guide's own fill.sh prints them over the translation f6d7201190ea634d… (all of the seat's roots in one cut). By AI agents, Wed Nov 11 2026. No macro, syntax, notation, axiom, sorry.
-/
import Derived.Test.YtafaabhnkjjkcaaChecked
import GoSem.Claim
import GoSem.ClaimJoined
import GoSem.ClaimMapViews
import Derived.JoinedTies
import Derived.KernelRfl
namespace Go.Proofs.Ytafaabhnkjjkcaa
/- THE CELL 'sum', in the pinned program and in every row, IS THE sha256 OF THE DUMP (.gsa) THAT YtafaabhnkjjkcaaProg.lean LOADS. Nothing in Lean hashes anything: it is a label: what it is worth is what the hold of that sum in a sandbox is worth. -/
noncomputable def Try.pinned : Pinned := { name := "ytafaabhnkjjkcaa", sum := "f6d7201190ea634d953499a55538e27907270db71d3a198520daf850f68e8445", checked := Try.checked }
namespace Rows
def none {H : Type} : Left H := { results := [], args := [] }

/-- 'laws.FnExactParticleOf': WHATEVER THE INPUT: true; the input reads as it did. -/
def fnExactParticleOfSpec : ChangeSpec := { name := "fnExactParticleOf", fn := fun _ => fun
  | [d] => { results := [.lit (.bool true)], args := [d] }
  | _ => none }
def fnExactParticleOfRow : OpenClaim := { program := "ytafaabhnkjjkcaa", sum := "f6d7201190ea634d953499a55538e27907270db71d3a198520daf850f68e8445", func := "loop.example/g01226/laws.FnExactParticleOf", spec := "fnExactParticleOf", inPlace := ["math.Float32frombits"], named := ["encoding/binary.LittleEndian"], apart := false }
def FnExactParticleOfSaid : Prop := fnExactParticleOfRow.holds Try.pinned (OpenSpec.ofChange fnExactParticleOfSpec)

/-- ITS FALSE NEIGHBOUR: 'it returns false'. Refute it at one input. -/
def fnExactParticleOfWrong : ChangeSpec := { name := "fnExactParticleOf", fn := fun _ => fun
  | [d] => { results := [.lit (.bool false)], args := [d] }
  | _ => none }
def FnExactParticleOfWrongFalsely : Prop := fnExactParticleOfRow.holds Try.pinned (OpenSpec.ofChange fnExactParticleOfWrong)

/-- 'laws.FnExactNewDesk': WHATEVER THE INPUT: true; the input reads as it did. -/
def fnExactNewDeskSpec : ChangeSpec := { name := "fnExactNewDesk", fn := fun _ => fun
  | [] => { results := [.lit (.bool true)], args := [] }
  | _ => none }
def fnExactNewDeskRow : OpenClaim := { program := "ytafaabhnkjjkcaa", sum := "f6d7201190ea634d953499a55538e27907270db71d3a198520daf850f68e8445", func := "loop.example/g01226/laws.FnExactNewDesk", spec := "fnExactNewDesk", apart := false }
def FnExactNewDeskSaid : Prop := fnExactNewDeskRow.holds Try.pinned (OpenSpec.ofChange fnExactNewDeskSpec)

/-- ITS FALSE NEIGHBOUR: 'it returns false'. Refute it at one input. -/
def fnExactNewDeskWrong : ChangeSpec := { name := "fnExactNewDesk", fn := fun _ => fun
  | [] => { results := [.lit (.bool false)], args := [] }
  | _ => none }
def FnExactNewDeskWrongFalsely : Prop := fnExactNewDeskRow.holds Try.pinned (OpenSpec.ofChange fnExactNewDeskWrong)

/-- 'laws.FnExactLoadCloud': WHATEVER THE INPUT: true; the input reads as it did. -/
def fnExactLoadCloudSpec : ChangeSpec := { name := "fnExactLoadCloud", fn := fun _ => fun
  | [d] => { results := [.lit (.bool true)], args := [d] }
  | _ => none }
def fnExactLoadCloudRow : OpenClaim := { program := "ytafaabhnkjjkcaa", sum := "f6d7201190ea634d953499a55538e27907270db71d3a198520daf850f68e8445", func := "loop.example/g01226/laws.FnExactLoadCloud", spec := "fnExactLoadCloud", inPlace := ["math.Float32frombits"], unfollowed := true, recurses := true, named := ["encoding/binary.LittleEndian"], apart := false }
def FnExactLoadCloudSaid : Prop := fnExactLoadCloudRow.holds Try.pinned (OpenSpec.ofChange fnExactLoadCloudSpec)

/-- ITS FALSE NEIGHBOUR: 'it returns false'. Refute it at one input. -/
def fnExactLoadCloudWrong : ChangeSpec := { name := "fnExactLoadCloud", fn := fun _ => fun
  | [d] => { results := [.lit (.bool false)], args := [d] }
  | _ => none }
def FnExactLoadCloudWrongFalsely : Prop := fnExactLoadCloudRow.holds Try.pinned (OpenSpec.ofChange fnExactLoadCloudWrong)

/-- 'laws.FnExactRecoverShots': WHATEVER THE INPUT: true; the input reads as it did. -/
def fnExactRecoverShotsSpec : ChangeSpec := { name := "fnExactRecoverShots", fn := fun _ => fun
  | [d] => { results := [.lit (.bool true)], args := [d] }
  | _ => none }
def fnExactRecoverShotsRow : OpenClaim := { program := "ytafaabhnkjjkcaa", sum := "f6d7201190ea634d953499a55538e27907270db71d3a198520daf850f68e8445", func := "loop.example/g01226/laws.FnExactRecoverShots", spec := "fnExactRecoverShots", inPlace := ["math.Float32frombits", "math.Float32bits"], unfollowed := true, recurses := true, named := ["encoding/binary.LittleEndian"], apart := false }
def FnExactRecoverShotsSaid : Prop := fnExactRecoverShotsRow.holds Try.pinned (OpenSpec.ofChange fnExactRecoverShotsSpec)

/-- ITS FALSE NEIGHBOUR: 'it returns false'. Refute it at one input. -/
def fnExactRecoverShotsWrong : ChangeSpec := { name := "fnExactRecoverShots", fn := fun _ => fun
  | [d] => { results := [.lit (.bool false)], args := [d] }
  | _ => none }
def FnExactRecoverShotsWrongFalsely : Prop := fnExactRecoverShotsRow.holds Try.pinned (OpenSpec.ofChange fnExactRecoverShotsWrong)

/-- 'laws.FnExactLoadShots': WHATEVER THE INPUT: true; the input reads as it did. -/
def fnExactLoadShotsSpec : ChangeSpec := { name := "fnExactLoadShots", fn := fun _ => fun
  | [d] => { results := [.lit (.bool true)], args := [d] }
  | _ => none }
def fnExactLoadShotsRow : OpenClaim := { program := "ytafaabhnkjjkcaa", sum := "f6d7201190ea634d953499a55538e27907270db71d3a198520daf850f68e8445", func := "loop.example/g01226/laws.FnExactLoadShots", spec := "fnExactLoadShots", inPlace := ["math.Float32frombits", "math.Float32bits"], unfollowed := true, recurses := true, named := ["encoding/binary.LittleEndian"], apart := false }
def FnExactLoadShotsSaid : Prop := fnExactLoadShotsRow.holds Try.pinned (OpenSpec.ofChange fnExactLoadShotsSpec)

/-- ITS FALSE NEIGHBOUR: 'it returns false'. Refute it at one input. -/
def fnExactLoadShotsWrong : ChangeSpec := { name := "fnExactLoadShots", fn := fun _ => fun
  | [d] => { results := [.lit (.bool false)], args := [d] }
  | _ => none }
def FnExactLoadShotsWrongFalsely : Prop := fnExactLoadShotsRow.holds Try.pinned (OpenSpec.ofChange fnExactLoadShotsWrong)

/-- 'laws.FnShotsStored': WHATEVER THE INPUT: true; the input reads as it did. -/
def fnShotsStoredSpec : ChangeSpec := { name := "fnShotsStored", fn := fun _ => fun
  | [d1, d2] => { results := [.lit (.bool true)], args := [d1, d2] }
  | _ => none }
def fnShotsStoredRow : OpenClaim := { program := "ytafaabhnkjjkcaa", sum := "f6d7201190ea634d953499a55538e27907270db71d3a198520daf850f68e8445", func := "loop.example/g01226/laws.FnShotsStored", spec := "fnShotsStored", inPlace := ["math.Float32frombits", "math.Float32bits"], unfollowed := true, recurses := true, named := ["encoding/binary.LittleEndian"], apart := false }
def FnShotsStoredSaid : Prop := fnShotsStoredRow.holds Try.pinned (OpenSpec.ofChange fnShotsStoredSpec)

/-- ITS FALSE NEIGHBOUR: 'it returns false'. Refute it at one input. -/
def fnShotsStoredWrong : ChangeSpec := { name := "fnShotsStored", fn := fun _ => fun
  | [d1, d2] => { results := [.lit (.bool false)], args := [d1, d2] }
  | _ => none }
def FnShotsStoredWrongFalsely : Prop := fnShotsStoredRow.holds Try.pinned (OpenSpec.ofChange fnShotsStoredWrong)

/- THE SECOND FORM. 'bulk': how many values and letters a reading holds, each counted each time it is reached (what is shared counts as often as it is met; a slice's spare places count too). A statement '..UptoSaid' is the law's where the arguments, and the package variables that the reading takes, are together of bulk at most 1048576: NARROWER than '..Said'. Prove '..Said' where nothing that the law and all that it calls make is longer than what came in: it says more and counts as full. Else prove '..UptoSaid'. A law counts once. -/
mutual
def uptoBulk {H : Type} : DataW H → Nat
  | .lit (.string bytes) => bytes.length + 1
  | .lit _ => 1
  | .nil => 1
  | .ptr d => uptoBulk d + 1
  | .slice elems spare => uptoBulkAll elems + uptoBulkAll spare + 1
  | .agg parts => uptoBulkAll parts + 1
  | .iface _ d => uptoBulk d + 1
  | .map entries => uptoBulkEntries entries + 1
  | .held _ => 1
def uptoBulkAll {H : Type} : List (DataW H) → Nat
  | [] => 0
  | d :: r => uptoBulk d + uptoBulkAll r
def uptoBulkEntries {H : Type} : List (Lit × DataW H) → Nat
  | [] => 0
  | x :: r => uptoBulkEntry x + uptoBulkEntries r
def uptoBulkEntry {H : Type} : Lit × DataW H → Nat
  | (.string bytes, d) => bytes.length + uptoBulk d + 1
  | (_, d) => uptoBulk d + 1
 end
def uptoSmall : (H : Type) → List (DataW H) → Bool := fun _ ds => decide (uptoBulkAll ds ≤ 1048576)
def OpenSpec.upto (s : _root_.Go.ChangeSpec) : _root_.Go.OpenSpec := { _root_.Go.OpenSpec.ofChange s with cond := some uptoSmall }

/-- 'laws.FnExactParticleOf', WHERE WHAT IT READS IS OF BULK AT MOST 1048576: true; the input reads as it did. -/
def fnExactParticleOfUptoRow : OpenClaim := { program := "ytafaabhnkjjkcaa", sum := "f6d7201190ea634d953499a55538e27907270db71d3a198520daf850f68e8445", func := "loop.example/g01226/laws.FnExactParticleOf", spec := "fnExactParticleOf", inPlace := ["math.Float32frombits"], named := ["encoding/binary.LittleEndian"], apart := false, narrowed := true }
def FnExactParticleOfUptoSaid : Prop := fnExactParticleOfUptoRow.holds Try.pinned (OpenSpec.upto fnExactParticleOfSpec)

/-- 'laws.FnExactNewDesk', WHERE WHAT IT READS IS OF BULK AT MOST 1048576: true; the input reads as it did. -/
def fnExactNewDeskUptoRow : OpenClaim := { program := "ytafaabhnkjjkcaa", sum := "f6d7201190ea634d953499a55538e27907270db71d3a198520daf850f68e8445", func := "loop.example/g01226/laws.FnExactNewDesk", spec := "fnExactNewDesk", apart := false, narrowed := true }
def FnExactNewDeskUptoSaid : Prop := fnExactNewDeskUptoRow.holds Try.pinned (OpenSpec.upto fnExactNewDeskSpec)

/-- 'laws.FnExactLoadCloud', WHERE WHAT IT READS IS OF BULK AT MOST 1048576: true; the input reads as it did. -/
def fnExactLoadCloudUptoRow : OpenClaim := { program := "ytafaabhnkjjkcaa", sum := "f6d7201190ea634d953499a55538e27907270db71d3a198520daf850f68e8445", func := "loop.example/g01226/laws.FnExactLoadCloud", spec := "fnExactLoadCloud", inPlace := ["math.Float32frombits"], unfollowed := true, recurses := true, named := ["encoding/binary.LittleEndian"], apart := false, narrowed := true }
def FnExactLoadCloudUptoSaid : Prop := fnExactLoadCloudUptoRow.holds Try.pinned (OpenSpec.upto fnExactLoadCloudSpec)

/-- 'laws.FnExactRecoverShots', WHERE WHAT IT READS IS OF BULK AT MOST 1048576: true; the input reads as it did. -/
def fnExactRecoverShotsUptoRow : OpenClaim := { program := "ytafaabhnkjjkcaa", sum := "f6d7201190ea634d953499a55538e27907270db71d3a198520daf850f68e8445", func := "loop.example/g01226/laws.FnExactRecoverShots", spec := "fnExactRecoverShots", inPlace := ["math.Float32frombits", "math.Float32bits"], unfollowed := true, recurses := true, named := ["encoding/binary.LittleEndian"], apart := false, narrowed := true }
def FnExactRecoverShotsUptoSaid : Prop := fnExactRecoverShotsUptoRow.holds Try.pinned (OpenSpec.upto fnExactRecoverShotsSpec)

/-- 'laws.FnExactLoadShots', WHERE WHAT IT READS IS OF BULK AT MOST 1048576: true; the input reads as it did. -/
def fnExactLoadShotsUptoRow : OpenClaim := { program := "ytafaabhnkjjkcaa", sum := "f6d7201190ea634d953499a55538e27907270db71d3a198520daf850f68e8445", func := "loop.example/g01226/laws.FnExactLoadShots", spec := "fnExactLoadShots", inPlace := ["math.Float32frombits", "math.Float32bits"], unfollowed := true, recurses := true, named := ["encoding/binary.LittleEndian"], apart := false, narrowed := true }
def FnExactLoadShotsUptoSaid : Prop := fnExactLoadShotsUptoRow.holds Try.pinned (OpenSpec.upto fnExactLoadShotsSpec)

/-- 'laws.FnShotsStored', WHERE WHAT IT READS IS OF BULK AT MOST 1048576: true; the input reads as it did. -/
def fnShotsStoredUptoRow : OpenClaim := { program := "ytafaabhnkjjkcaa", sum := "f6d7201190ea634d953499a55538e27907270db71d3a198520daf850f68e8445", func := "loop.example/g01226/laws.FnShotsStored", spec := "fnShotsStored", inPlace := ["math.Float32frombits", "math.Float32bits"], unfollowed := true, recurses := true, named := ["encoding/binary.LittleEndian"], apart := false, narrowed := true }
def FnShotsStoredUptoSaid : Prop := fnShotsStoredUptoRow.holds Try.pinned (OpenSpec.upto fnShotsStoredSpec)

end Rows
end Go.Proofs.Ytafaabhnkjjkcaa
