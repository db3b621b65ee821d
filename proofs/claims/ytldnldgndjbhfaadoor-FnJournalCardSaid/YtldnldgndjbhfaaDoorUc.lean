/- Contract: the library's ParseUint at base 16 and 32 bits: eight lowercase digits give their word; whatever else gives an error or some word. -/
import Derived.Test.YtldnldgndjbhfaaDoorUb
import Derived.Lib.ConvBytes
import Derived.Lib.SmallJoins
namespace Go.Proofs.YtldnldgndjbhfaaDoor
open Go.RowKit Go.Sort
set_option linter.unusedSimpArgs false

/-- The value of a lowercase digit; of some. -/
def dv (b : UInt8) : Option Nat := if 48 ≤ b.toNat ∧ b.toNat ≤ 57 then some (b.toNat - 48) else if 97 ≤ b.toNat ∧ b.toNat ≤ 102 then some (b.toNat - 87) else none
def valF : Nat → List UInt8 → Option Nat
  | n, [] => some n
  | n, b :: r => match dv b with
    | some d => valF (16 * n + d) r
    | none => none
def hv8 (l : List UInt8) : Option Nat := if l.length = 8 then valF 0 l else none
theorem dv_lt {b : UInt8} {d : Nat} (h : dv b = some d) : d < 16 := by
  unfold dv at h
  split at h
  · injection h with h; omega
  · split at h
    · injection h with h; omega
    · cases h
theorem valF_cons {n v : Nat} {b : UInt8} {r : List UInt8} (h : valF n (b :: r) = some v) : ∃ d, dv b = some d ∧ valF (16 * n + d) r = some v := by
  unfold valF at h
  cases hd : dv b with
  | none => rw [hd] at h; cases h
  | some d => rw [hd] at h; exact ⟨d, rfl, h⟩

theorem step_ok {a i d : Nat} (h : a < 16 ^ i) (hi : i < 8) (hd : d < 16) : 16 * a + d < 16 ^ (i + 1) ∧ 16 * a + d < 4294967296 := by
  have e : 16 ^ (i + 1) = 16 ^ i * 16 := Nat.pow_succ ..
  have le : 16 ^ (i + 1) ≤ 16 ^ 8 := Nat.pow_le_pow_right (by omega) (by omega)
  have e8 : 16 ^ 8 = 4294967296 := by decide
  omega

theorem or32_all : ∀ c : Fin 256, 0 ≤ bits .or .u8 (c.val : Int) 32 ∧ bits .or .u8 (c.val : Int) 32 < 256 ∧ (97 ≤ c.val ∧ c.val ≤ 102 → bits .or .u8 (c.val : Int) 32 = (c.val : Int)) := by decide +kernel

end Go.Proofs.YtldnldgndjbhfaaDoor
