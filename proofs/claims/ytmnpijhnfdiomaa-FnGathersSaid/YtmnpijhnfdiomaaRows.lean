/-
  No cell of these rows narrows 'for every input' (looked for: loops, veiled, ifaces, maps, wideKeys, modest, calm, conditions, laid).
  DERIVED. THE GIVEN ROWS OF THIS SEAT. 5 by the template 'for every input the law returns true; each argument reads behind the call as it read before'; 0 by the template 'total and deterministic' (their statements: YtmnpijhnfdiomaaTotals.lean).
  GIVEN WITH THE SEED: the statements are not yours to turn. If you find one false, say at which input.
  Laid BY PROGRAM, IN A SANDBOX (cutbox-rows.mjs): the forced cells as the released guide's own fill.sh prints them over the translation b9605c75f7ebf8ce… (all of the seat's roots in one cut). By AI agents, Wed Nov 11 2026. No macro, syntax, notation, axiom, sorry.
-/
import Derived.Test.YtmnpijhnfdiomaaChecked
import GoSem.Claim
import GoSem.ClaimJoined
import GoSem.ClaimMapViews
import Derived.JoinedTies
import Derived.KernelRfl
namespace Go.Proofs.Ytmnpijhnfdiomaa
/- THE CELL 'sum', in the pinned program and in every row, IS THE sha256 OF THE DUMP (.gsa) THAT YtmnpijhnfdiomaaProg.lean LOADS. Nothing in Lean hashes anything: it is a label: what it is worth is what the hold of that sum in a sandbox is worth. -/
noncomputable def Try.pinned : Pinned := { name := "ytmnpijhnfdiomaa", sum := "b9605c75f7ebf8cec04534fbc9d4f9e0e634774f5da68236967344b0a8f16304", checked := Try.checked }
namespace Rows
def none {H : Type} : Left H := { results := [], args := [] }

/-- 'laws.FnShares': WHATEVER THE INPUT: true; the input reads as it did. -/
def fnSharesSpec : ChangeSpec := { name := "fnShares", fn := fun _ => fun
  | [d1, d2] => { results := [.lit (.bool true)], args := [d1, d2] }
  | _ => none }
def fnSharesRow : OpenClaim := { program := "ytmnpijhnfdiomaa", sum := "b9605c75f7ebf8cec04534fbc9d4f9e0e634774f5da68236967344b0a8f16304", func := "loop.example/g01226/laws.FnShares", spec := "fnShares", inPlace := ["math.archFloor", "math.Float64bits", "math.Float64frombits", "math.archTrunc", "math.Float32bits"], apart := false }
def FnSharesSaid : Prop := fnSharesRow.holds Try.pinned (OpenSpec.ofChange fnSharesSpec)

/-- ITS FALSE NEIGHBOUR: 'it returns false'. Refute it at one input. -/
def fnSharesWrong : ChangeSpec := { name := "fnShares", fn := fun _ => fun
  | [d1, d2] => { results := [.lit (.bool false)], args := [d1, d2] }
  | _ => none }
def FnSharesWrongFalsely : Prop := fnSharesRow.holds Try.pinned (OpenSpec.ofChange fnSharesWrong)

/-- 'laws.FnWalls': WHATEVER THE INPUT: true; the input reads as it did. -/
def fnWallsSpec : ChangeSpec := { name := "fnWalls", fn := fun _ => fun
  | [d1, d2] => { results := [.lit (.bool true)], args := [d1, d2] }
  | _ => none }
def fnWallsRow : OpenClaim := { program := "ytmnpijhnfdiomaa", sum := "b9605c75f7ebf8cec04534fbc9d4f9e0e634774f5da68236967344b0a8f16304", func := "loop.example/g01226/laws.FnWalls", spec := "fnWalls", inPlace := ["math.Float32bits"], unfollowed := true, recurses := true, apart := false }
def FnWallsSaid : Prop := fnWallsRow.holds Try.pinned (OpenSpec.ofChange fnWallsSpec)

/-- ITS FALSE NEIGHBOUR: 'it returns false'. Refute it at one input. -/
def fnWallsWrong : ChangeSpec := { name := "fnWalls", fn := fun _ => fun
  | [d1, d2] => { results := [.lit (.bool false)], args := [d1, d2] }
  | _ => none }
def FnWallsWrongFalsely : Prop := fnWallsRow.holds Try.pinned (OpenSpec.ofChange fnWallsWrong)

/-- 'laws.FnWaysShort': WHATEVER THE INPUT: true; the input reads as it did. -/
def fnWaysShortSpec : ChangeSpec := { name := "fnWaysShort", fn := fun _ => fun
  | [d1, d2] => { results := [.lit (.bool true)], args := [d1, d2] }
  | _ => none }
def fnWaysShortRow : OpenClaim := { program := "ytmnpijhnfdiomaa", sum := "b9605c75f7ebf8cec04534fbc9d4f9e0e634774f5da68236967344b0a8f16304", func := "loop.example/g01226/laws.FnWaysShort", spec := "fnWaysShort", inPlace := ["math.archFloor", "math.Float64bits", "math.Float64frombits", "math.archTrunc", "math.Float32bits"], unfollowed := true, recurses := true, apart := false }
def FnWaysShortSaid : Prop := fnWaysShortRow.holds Try.pinned (OpenSpec.ofChange fnWaysShortSpec)

/-- ITS FALSE NEIGHBOUR: 'it returns false'. Refute it at one input. -/
def fnWaysShortWrong : ChangeSpec := { name := "fnWaysShort", fn := fun _ => fun
  | [d1, d2] => { results := [.lit (.bool false)], args := [d1, d2] }
  | _ => none }
def FnWaysShortWrongFalsely : Prop := fnWaysShortRow.holds Try.pinned (OpenSpec.ofChange fnWaysShortWrong)

/-- 'laws.FnDeposits': WHATEVER THE INPUT: true; the input reads as it did. -/
def fnDepositsSpec : ChangeSpec := { name := "fnDeposits", fn := fun _ => fun
  | [d1, d2] => { results := [.lit (.bool true)], args := [d1, d2] }
  | _ => none }
def fnDepositsRow : OpenClaim := { program := "ytmnpijhnfdiomaa", sum := "b9605c75f7ebf8cec04534fbc9d4f9e0e634774f5da68236967344b0a8f16304", func := "loop.example/g01226/laws.FnDeposits", spec := "fnDeposits", inPlace := ["math.archFloor", "math.Float64bits", "math.Float64frombits", "math.archTrunc"], unfollowed := true, recurses := true, apart := false }
def FnDepositsSaid : Prop := fnDepositsRow.holds Try.pinned (OpenSpec.ofChange fnDepositsSpec)

/-- ITS FALSE NEIGHBOUR: 'it returns false'. Refute it at one input. -/
def fnDepositsWrong : ChangeSpec := { name := "fnDeposits", fn := fun _ => fun
  | [d1, d2] => { results := [.lit (.bool false)], args := [d1, d2] }
  | _ => none }
def FnDepositsWrongFalsely : Prop := fnDepositsRow.holds Try.pinned (OpenSpec.ofChange fnDepositsWrong)

/-- 'laws.FnGathers': WHATEVER THE INPUT: true; the input reads as it did. -/
def fnGathersSpec : ChangeSpec := { name := "fnGathers", fn := fun _ => fun
  | [d1, d2] => { results := [.lit (.bool true)], args := [d1, d2] }
  | _ => none }
def fnGathersRow : OpenClaim := { program := "ytmnpijhnfdiomaa", sum := "b9605c75f7ebf8cec04534fbc9d4f9e0e634774f5da68236967344b0a8f16304", func := "loop.example/g01226/laws.FnGathers", spec := "fnGathers", inPlace := ["math.archFloor", "math.Float64bits", "math.Float64frombits", "math.archTrunc"], unfollowed := true, recurses := true, apart := false }
def FnGathersSaid : Prop := fnGathersRow.holds Try.pinned (OpenSpec.ofChange fnGathersSpec)

/-- ITS FALSE NEIGHBOUR: 'it returns false'. Refute it at one input. -/
def fnGathersWrong : ChangeSpec := { name := "fnGathers", fn := fun _ => fun
  | [d1, d2] => { results := [.lit (.bool false)], args := [d1, d2] }
  | _ => none }
def FnGathersWrongFalsely : Prop := fnGathersRow.holds Try.pinned (OpenSpec.ofChange fnGathersWrong)

/- THE SECOND FORM. 'bulk': how many values and letters a reading holds, each counted each time it is reached (what is shared counts as often as it is met; a slice's spare places count too). A statement '..UptoSaid' is the law's where the arguments, and the package variables that the reading takes, are together of bulk at most 1048576: NARROWER than '..Said'. Prove '..Said' where nothing that the law and all that it calls make is longer than what came in: it says more and counts as full. Else prove '..UptoSaid'. A law counts once. -/
mutual
def uptoBulk {H : Type} : DataW H → Nat
  | .lit (.string bytes) => bytes.length + 1
  | .lit _ => 1
  | .nil => 1
  | .ptr d => uptoBulk d + 1
  | .slice elems spare => uptoBulkAll elems + uptoBulkAll spare + 1
  | .agg parts => uptoBulkAll parts + 1
  | .iface _ d => uptoBulk d + 1
  | .map entries => uptoBulkEntries entries + 1
  | .held _ => 1
def uptoBulkAll {H : Type} : List (DataW H) → Nat
  | [] => 0
  | d :: r => uptoBulk d + uptoBulkAll r
def uptoBulkEntries {H : Type} : List (Lit × DataW H) → Nat
  | [] => 0
  | x :: r => uptoBulkEntry x + uptoBulkEntries r
def uptoBulkEntry {H : Type} : Lit × DataW H → Nat
  | (.string bytes, d) => bytes.length + uptoBulk d + 1
  | (_, d) => uptoBulk d + 1
 end
def uptoSmall : (H : Type) → List (DataW H) → Bool := fun _ ds => decide (uptoBulkAll ds ≤ 1048576)
def OpenSpec.upto (s : _root_.Go.ChangeSpec) : _root_.Go.OpenSpec := { _root_.Go.OpenSpec.ofChange s with cond := some uptoSmall }

/-- 'laws.FnShares', WHERE WHAT IT READS IS OF BULK AT MOST 1048576: true; the input reads as it did. -/
def fnSharesUptoRow : OpenClaim := { program := "ytmnpijhnfdiomaa", sum := "b9605c75f7ebf8cec04534fbc9d4f9e0e634774f5da68236967344b0a8f16304", func := "loop.example/g01226/laws.FnShares", spec := "fnShares", inPlace := ["math.archFloor", "math.Float64bits", "math.Float64frombits", "math.archTrunc", "math.Float32bits"], apart := false, narrowed := true }
def FnSharesUptoSaid : Prop := fnSharesUptoRow.holds Try.pinned (OpenSpec.upto fnSharesSpec)

/-- 'laws.FnWalls', WHERE WHAT IT READS IS OF BULK AT MOST 1048576: true; the input reads as it did. -/
def fnWallsUptoRow : OpenClaim := { program := "ytmnpijhnfdiomaa", sum := "b9605c75f7ebf8cec04534fbc9d4f9e0e634774f5da68236967344b0a8f16304", func := "loop.example/g01226/laws.FnWalls", spec := "fnWalls", inPlace := ["math.Float32bits"], unfollowed := true, recurses := true, apart := false, narrowed := true }
def FnWallsUptoSaid : Prop := fnWallsUptoRow.holds Try.pinned (OpenSpec.upto fnWallsSpec)

/-- 'laws.FnWaysShort', WHERE WHAT IT READS IS OF BULK AT MOST 1048576: true; the input reads as it did. -/
def fnWaysShortUptoRow : OpenClaim := { program := "ytmnpijhnfdiomaa", sum := "b9605c75f7ebf8cec04534fbc9d4f9e0e634774f5da68236967344b0a8f16304", func := "loop.example/g01226/laws.FnWaysShort", spec := "fnWaysShort", inPlace := ["math.archFloor", "math.Float64bits", "math.Float64frombits", "math.archTrunc", "math.Float32bits"], unfollowed := true, recurses := true, apart := false, narrowed := true }
def FnWaysShortUptoSaid : Prop := fnWaysShortUptoRow.holds Try.pinned (OpenSpec.upto fnWaysShortSpec)

/-- 'laws.FnDeposits', WHERE WHAT IT READS IS OF BULK AT MOST 1048576: true; the input reads as it did. -/
def fnDepositsUptoRow : OpenClaim := { program := "ytmnpijhnfdiomaa", sum := "b9605c75f7ebf8cec04534fbc9d4f9e0e634774f5da68236967344b0a8f16304", func := "loop.example/g01226/laws.FnDeposits", spec := "fnDeposits", inPlace := ["math.archFloor", "math.Float64bits", "math.Float64frombits", "math.archTrunc"], unfollowed := true, recurses := true, apart := false, narrowed := true }
def FnDepositsUptoSaid : Prop := fnDepositsUptoRow.holds Try.pinned (OpenSpec.upto fnDepositsSpec)

/-- 'laws.FnGathers', WHERE WHAT IT READS IS OF BULK AT MOST 1048576: true; the input reads as it did. -/
def fnGathersUptoRow : OpenClaim := { program := "ytmnpijhnfdiomaa", sum := "b9605c75f7ebf8cec04534fbc9d4f9e0e634774f5da68236967344b0a8f16304", func := "loop.example/g01226/laws.FnGathers", spec := "fnGathers", inPlace := ["math.archFloor", "math.Float64bits", "math.Float64frombits", "math.archTrunc"], unfollowed := true, recurses := true, apart := false, narrowed := true }
def FnGathersUptoSaid : Prop := fnGathersUptoRow.holds Try.pinned (OpenSpec.upto fnGathersSpec)

end Rows
end Go.Proofs.Ytmnpijhnfdiomaa
