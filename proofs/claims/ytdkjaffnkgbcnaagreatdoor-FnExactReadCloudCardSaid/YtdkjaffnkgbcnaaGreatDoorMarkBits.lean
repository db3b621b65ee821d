/- The marks of the laws are numbers that are themselves in 32 bits. -/
import Derived.Test.YtdkjaffnkgbcnaaGreatDoorFl
namespace Go.Proofs.YtdkjaffnkgbcnaaGreatDoor
/-- The bits of the number k as a mark. -/
def mk32 (k : Nat) : Nat := FloatKind.f32.nearest k
def mk64 (k : Nat) : Nat := FloatKind.f64.nearest k

set_option maxRecDepth 10000 in
theorem marks_ok : (List.range 1600).all (fun k => decide (floatToFloatBits .f64 (mk64 k) .f32 = some (mk32 k)) && (FloatKind.f32.format.order (mk32 k) (mk32 k) == some .eq)) = true := by decide +kernel
theorem mark_bits (k : Nat) (h : k < 1600) : floatToFloatBits .f64 (mk64 k) .f32 = some (mk32 k) ∧ FloatKind.f32.format.order (mk32 k) (mk32 k) = some .eq := by
  have h2 := List.all_eq_true.1 marks_ok k (List.mem_range.2 h)
  rw [Bool.and_eq_true] at h2
  exact ⟨of_decide_eq_true h2.1, by simpa using h2.2⟩

/-- The bits of 1. -/
def one32 : Nat := 1065353216
theorem one_bits : floatToFloatBits .f64 4607182418800017408 .f32 = some one32 ∧ FloatKind.f32.format.order one32 one32 = some .eq := by decide +kernel

end Go.Proofs.YtdkjaffnkgbcnaaGreatDoor
