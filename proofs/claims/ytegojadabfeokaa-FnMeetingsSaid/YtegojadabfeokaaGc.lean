/- Contract: math.Floor of a number. -/
import Derived.Test.YtegojadabfeokaaLeaf
import Derived.Test.YtegojadabfeokaaFw
import Derived.Laws.Externs
import Derived.Outline
namespace Go.Proofs.Ytegojadabfeokaa
open Go.RowKit Ieee

theorem to_int_arg (motive : Array Value → Sort 1) (x : Nat) (h1 : (x : Nat) → motive #[Value.float FloatKind.f64 x]) (h2 : (x : Array Value) → motive x) : Extern.MathFloor.toIntegral.match_2 motive #[.float .f64 x] h1 h2 = h1 x := rfl
end Go.Proofs.Ytegojadabfeokaa
