/- Contracts: marks, texts marked and held. -/
import Derived.Test.YtldnldgndjbhfaaDoorTt
import Derived.Deep.RegionLaw
namespace Go.Proofs.YtldnldgndjbhfaaDoor
open Go.RowKit Go.Sort
set_option linter.unusedSimpArgs false

theorem belowD' (B : Nat) (w : World) (n : Nat) : Below B w (w.drewN n) := ⟨rfl, rfl, rfl, Nat.le_refl _, fun _ _ => rfl⟩
/-- The mark of a number. -/
def MT (k : Nat) : ByteArray := tx (109 :: Lib.decDigits k)

def marksL (n : Nat) : List ByteArray := (List.range n).map fun i => MT (1 + i)
theorem marksL_len (n : Nat) : (marksL n).length = n := by unfold marksL; simp
theorem marksL_succ (n : Nat) : sv (marksL (n + 1)) = sv (marksL n) ++ [.string (MT (1 + n))] := by
  unfold sv marksL
  rw [List.range_succ]; simp
theorem marksL_at (n i : Nat) (h : i < n) : (sv (marksL n))[i]? = some (.string (MT (1 + i))) := by
  unfold sv marksL
  simp [h]

end Go.Proofs.YtldnldgndjbhfaaDoor
