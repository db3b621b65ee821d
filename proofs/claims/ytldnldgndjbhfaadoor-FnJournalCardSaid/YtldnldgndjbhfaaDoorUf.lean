/- Contract: the specification's reading of eight digits. -/
import Derived.Test.YtldnldgndjbhfaaDoorUe
namespace Go.Proofs.YtldnldgndjbhfaaDoor
open Go.RowKit Go.Sort
set_option linter.unusedSimpArgs false

theorem dv_cases (b : UInt8) : (48 ≤ b.toNat ∧ b.toNat ≤ 57 ∧ dv b = some (b.toNat - 48)) ∨ (97 ≤ b.toNat ∧ b.toNat ≤ 102 ∧ dv b = some (b.toNat - 87)) ∨ (¬ (48 ≤ b.toNat ∧ b.toNat ≤ 57) ∧ ¬ (97 ≤ b.toNat ∧ b.toNat ≤ 102) ∧ dv b = none) := by
  unfold dv
  by_cases h : 48 ≤ b.toNat ∧ b.toNat ≤ 57
  · left; rw [if_pos h]; exact ⟨h.1, h.2, rfl⟩
  · right
    rw [if_neg h]
    by_cases h2 : 97 ≤ b.toNat ∧ b.toNat ≤ 102
    · left; rw [if_pos h2]; exact ⟨h2.1, h2.2, rfl⟩
    · right; rw [if_neg h2]; exact ⟨h, h2, rfl⟩
theorem valF_step {n : Nat} {b : UInt8} {d : Nat} {r : List UInt8} (h : dv b = some d) : valF n (b :: r) = valF (16 * n + d) r := by
  show (match dv b with | some d => valF (16 * n + d) r | none => none) = _
  rw [h]
theorem valF_stop {n : Nat} {b : UInt8} {r : List UInt8} (h : dv b = none) : valF n (b :: r) = none := by
  show (match dv b with | some d => valF (16 * n + d) r | none => none) = _
  rw [h]

end Go.Proofs.YtldnldgndjbhfaaDoor
