/- Contracts: a drawn place; equal numbers. -/
import Derived.Test.YtdonmboidpppmaaGg
import Derived.Laws.Externs
import Derived.Laws.ComplexArith
namespace Go.Proofs.Ytdonmboidpppmaa
open Go.RowKit Go.Sort Ieee

theorem quarter_words : wd single 3 10 = 1067450368 ∧ wd single 3 20 = 1075838976 := by decide +kernel

theorem run_bits (n : Nat) (w : World) : (callFunc 85 #[.float .f32 n]).run Try.prog w = .ok (.value (.int .u32 n)) w :=
  (run_callFunc_extern Try.func85 (by kernel_rfl) (by kernel_rfl) (by kernel_rfl) (e := Extern.MathFloatBits.float32bits) (by kernel_rfl) _ w).trans rfl

theorem wd32_lt (k : Nat) (n : Int) : (wd single k n : Int) < 4294967296 := by
  have h := wd_lt single k n
  have e : 2 ^ single.width = 4294967296 := by decide
  omega
theorem order_wd_self (k : Nat) (a : Int) (hk : k ≤ 100) (ha : a.natAbs < 16777216) : FloatKind.f32.format.order (wd single k a) (wd single k a) = some .eq := by
  rw [forder hk ha ha]
  rw [Int.compare_eq_eq.2 rfl]

set_option maxHeartbeats 1000000 in
set_option maxRecDepth 20000 in
theorem BitsOf_wd (k : Nat) (a : Int) (hk : k ≤ 100) (ha : a.natAbs < 16777216) (w : World) : Calls Try.prog 74 #[.float .f32 (wd single k a)] w fun e w' => e = .returned (.int .i64 (wd single k a)) ∧ w' = w := by
  have ho := order_wd_self k a hk ha
  have hl := wd32_lt k a
  have hw : IntKind.i64.wrap (wd single k a : Int) = wd single k a := IntWalk.i64_in _ ⟨by omega, by omega⟩
  have hr := run_bits
  clear hk ha hl
  generalize wd single k a = z at *
  go_enter Try.func74, Try.ntmps74
  go_wp2
  go_ret
  exact ⟨rfl, rfl⟩

set_option maxHeartbeats 1000000 in
theorem SameNumber_wd (k : Nat) (a : Int) (hk : k ≤ 100) (ha : a.natAbs < 16777216) (w : World) : Calls Try.prog 50 #[.float .f32 (wd single k a), .float .f32 (wd single k a)] w fun e w' => e = .returned (.bool true) ∧ w' = w := by
  have B := keep (fun w => BitsOf_wd k a hk ha w)
  clear hk ha
  generalize wd single k a = z at *
  have hz : ((z : Int) == (z : Int)) = true := by simp
  go_enter Try.func50, Try.ntmps50
  go_wp2_with (go_at_call 74; refine (B.out _).mono ?_; rintro e w' ⟨rfl, rfl⟩)
  go_ret
  exact ⟨rfl, rfl⟩

set_option maxHeartbeats 1000000 in
theorem SameComplex_wd (x y : Int) (hx : x.natAbs < 16777216) (hy : y.natAbs < 16777216) (w : World) : Calls Try.prog 14 #[placeV x y, placeV x y] w fun e w' => e = .returned (.bool true) ∧ w' = w := by
  have A := keep (fun w => SameNumber_wd 3 x (by omega) hx w)
  have B := keep (fun w => SameNumber_wd 3 y (by omega) hy w)
  clear hx hy
  unfold placeV
  go_enter Try.func14, Try.ntmps14
  go_wp2_with fail
  refine (A.out _).mono ?_
  rintro e w' ⟨rfl, rfl⟩
  go_wp2_with fail
  refine (B.out _).mono ?_
  rintro e w' ⟨rfl, rfl⟩
  go_wp2_with fail
  go_ret
  exact ⟨rfl, rfl⟩

theorem r8Long_any (a b : Option Addr) (n1 c1 n2 c2 : Nat) (w : World) : Calls Try.prog 5 #[.slice a n1 c1, .slice b n2 c2] w fun e w' => e = .returned (.bool (decide (48 < n1) || decide (48 < n2))) ∧ w' = w := by
  cases h1 : decide (48 < n1)
  · have h1' : decide ((48 : Int) < (n1 : Int)) = false := by simp at h1 ⊢; omega
    have e2 : decide ((48 : Int) < (n2 : Int)) = decide (48 < n2) := by rw [decide_eq_decide]; omega
    go_enter Try.func5, Try.ntmps5
    go_wp2
    go_ret
    exact ⟨by simp, rfl⟩
  · have h1' : decide ((48 : Int) < (n1 : Int)) = true := by simp at h1 ⊢; omega
    go_enter Try.func5, Try.ntmps5
    go_wp2
    go_ret
    exact ⟨by simp, rfl⟩
end Go.Proofs.Ytdonmboidpppmaa
