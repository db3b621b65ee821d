/- Contracts: the program's reading of lists of words and of pairs of words. -/
import Derived.Test.YtldnldgndjbhfaaDoorUg
import Derived.Test.YtldnldgndjbhfaaDoorUh
namespace Go.Proofs.YtldnldgndjbhfaaDoor
open Go.RowKit Go.Sort
set_option linter.unusedSimpArgs false
set_option linter.unusedVariables false

/-- What a list's text says, once it is no 'none'. -/
theorem goodL_else {β : Type} {f : List UInt8 → Option β} {l : List UInt8} (h : l ≠ [110, 111, 110, 101]) : goodL f l = if 256 < (parts 44 [] l).length then none else allOf f (parts 44 [] l) := by
  unfold goodL
  rw [if_neg h]
theorem infoF32 : (Tryd.prog.info? 29).map (fun i => (i.zero, i.size, i.bytes)) = some (some (.float .f32 0), 1, 4) := by kernel_rfl

end Go.Proofs.YtldnldgndjbhfaaDoor
