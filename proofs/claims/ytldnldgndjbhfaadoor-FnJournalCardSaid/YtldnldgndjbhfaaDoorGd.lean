/- Contract: a number of eighths is wrapped into a side of a grid. -/
import Derived.Test.YtldnldgndjbhfaaDoorGd0
namespace Go.Proofs.YtldnldgndjbhfaaDoor
open Go.RowKit Ieee

end Go.Proofs.YtldnldgndjbhfaaDoor
