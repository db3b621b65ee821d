/- Contract: a number of eighths is wrapped into a side of a grid. -/
import Derived.Test.YtegojadabfeokaaGd0
namespace Go.Proofs.Ytegojadabfeokaa
open Go.RowKit Ieee

end Go.Proofs.Ytegojadabfeokaa
