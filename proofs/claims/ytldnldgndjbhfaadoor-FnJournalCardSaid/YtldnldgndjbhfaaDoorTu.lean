/- Contracts: the reference's complete lines of a text, and what it recovers of a journal. -/
import Derived.Test.YtldnldgndjbhfaaDoorTt
import Derived.Deep.RegionLaw
namespace Go.Proofs.YtldnldgndjbhfaaDoor
open Go.RowKit Go.Sort
set_option linter.unusedSimpArgs false

theorem belowD (B : Nat) (w : World) (n : Nat) : Below B w (w.drewN n) := ⟨rfl, rfl, rfl, Nat.le_refl _, fun _ _ => rfl⟩
theorem own_base {w : World} {B B' e size n : Nat} {v : Value} {xs : List Value} (h : w.ownsRow B e size v n xs) (hB : B' ≤ B) : w.ownsRow B' e size v n xs := by
  refine ⟨h.1, ?_⟩
  rcases h.2 with h1 | ⟨g, cap, cur, h1, h2, h3⟩
  · exact .inl h1
  · exact .inr ⟨g, cap, cur, h1, Nat.le_trans hB h2, h3⟩
def lnsOf (s : ByteArray) : List (List UInt8) := (parts 10 [] s.data.toList).dropLast
theorem lnsOf_len (s : ByteArray) : (lnsOf s).length + 1 = (parts 10 [] s.data.toList).length := by
  unfold lnsOf
  have h := parts_ne 10 [] s.data.toList
  rw [List.length_dropLast]
  have : (parts 10 [] s.data.toList).length ≠ 0 := fun e => h (List.eq_nil_of_length_eq_zero e)
  omega

end Go.Proofs.YtldnldgndjbhfaaDoor
