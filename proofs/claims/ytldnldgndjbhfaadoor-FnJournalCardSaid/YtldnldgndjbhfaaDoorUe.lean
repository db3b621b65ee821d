/- Contract: a text cut at any mark. -/
import Derived.Test.YtldnldgndjbhfaaDoorUd
namespace Go.Proofs.YtldnldgndjbhfaaDoor
open Go.RowKit Go.Sort
set_option linter.unusedSimpArgs false

end Go.Proofs.YtldnldgndjbhfaaDoor
