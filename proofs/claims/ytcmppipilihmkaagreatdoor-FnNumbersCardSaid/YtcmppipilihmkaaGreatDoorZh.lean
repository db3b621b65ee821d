/- Contract: the sine of a quarter of a turn is 1. No condition. -/
import Derived.Test.YtcmppipilihmkaaGreatDoorZg
namespace Go.Proofs.YtcmppipilihmkaaGreatDoor
open Go.RowKit Go.Sort Ieee
set_option linter.unusedSimpArgs false

theorem run_trunc_quarter (w : World) : (callFunc 121 #[.float .f64 4598175219545276416]).run Tryz.prog w = .ok (.value (.float .f64 0)) w := by
  rw [run_callFunc_extern (e := Extern.MathFloor.toIntegral "math.archTrunc" .zero) Tryz.func121 (by kernel_rfl) (by kernel_rfl) (by kernel_rfl) (by kernel_rfl)]
  have e : Extern.MathFloor.toIntegral "math.archTrunc" .zero #[.float .f64 4598175219545276416] = pure (.float .f64 0) := by kernel_rfl
  rw [e]
  rfl
set_option maxHeartbeats 1000000 in
set_option maxRecDepth 20000 in
theorem Trunc_quarter (w : World) : Calls Tryz.prog 102 #[.float .f64 4598175219545276416] w fun e w' => e = .returned (.float .f64 0) ∧ w' = w := by
  have hr := run_trunc_quarter
  go_enter Tryz.func102, Tryz.ntmps102
  go_wp2_with fail
  go_ret
  exact ⟨rfl, rfl⟩
set_option maxHeartbeats 1000000 in
set_option maxRecDepth 20000 in
theorem fraction_quarter (w : World) : Calls Tryz.prog 91 #[.float .f64 4598175219545276416] w fun e w' => e = .returned (.float .f64 4598175219545276416) ∧ w' = w := by
  have T := keep (fun w => Trunc_quarter w)
  have o1 : FloatKind.f64.format.order 0 0 = some .eq := by decide +kernel
  have o2 : FloatKind.f64.format.order 4598175219545276416 0 = some .gt := by decide +kernel
  have f1 := zrun (show floatBits .sub .f64 4598175219545276416 0 = some 4598175219545276416 by decide +kernel)
  go_enter Tryz.func91, Tryz.ntmps91
  go_wp2_with fail
  refine (T.out _).mono ?_
  rintro e w' ⟨rfl, rfl⟩
  go_wp2_with fail
  go_ret
  exact ⟨rfl, rfl⟩

def sZ : Nat := fop .mul .f64 4598175219545276416 4618760256179416344
def sU : Nat := fop .mul .f64 sZ sZ
def sP : Nat → Nat
  | 0 => 4607182418800017408
  | j + 1 => fop .sub .f64 4607182418800017408 (fop .quo .f64 (fop .mul .f64 sU (sP j)) (floatOfInt .f64 (2 * (8 - (j : Int)) * (2 * (8 - (j : Int)) + 1))))
def sM (j : Nat) : Nat := fop .mul .f64 sU (sP j)
def sQ (j : Nat) : Nat := fop .quo .f64 (sM j) (floatOfInt .f64 (2 * (8 - (j : Int)) * (2 * (8 - (j : Int)) + 1)))
theorem sine_all : ∀ j : Fin 8, (decide (floatBits .mul .f64 sU (sP j.val) = some (sM j.val)) && (decide (floatBits .quo .f64 (sM j.val) (floatOfInt .f64 (2 * (8 - (j.val : Int)) * (2 * (8 - (j.val : Int)) + 1))) = some (sQ j.val)) && decide (floatBits .sub .f64 4607182418800017408 (sQ j.val) = some (sP (j.val + 1))))) = true := by decide +kernel
theorem sine_step (j : Nat) (hj : j < 8) : floatBits .mul .f64 sU (sP j) = some (sM j) ∧ floatBits .quo .f64 (sM j) (floatOfInt .f64 (2 * (8 - (j : Int)) * (2 * (8 - (j : Int)) + 1))) = some (sQ j) ∧ floatBits .sub .f64 4607182418800017408 (sQ j) = some (sP (j + 1)) := by
  have h := sine_all ⟨j, hj⟩
  simp only [Bool.and_eq_true, decide_eq_true_eq] at h
  exact h
theorem sine_first : floatBits .mul .f64 4598175219545276416 4618760256179416344 = some sZ ∧ floatBits .mul .f64 sZ sZ = some sU := by decide +kernel
def sR : Nat := fop .mul .f64 sZ (sP 8)
theorem sine_last : floatBits .mul .f64 sZ (sP 8) = some sR ∧ floatToFloatBits .f64 sR .f32 = some 1065353216 := by decide +kernel

set_option maxHeartbeats 2000000 in
set_option maxRecDepth 20000 in
theorem sine_quarter (w : World) : Calls Tryz.prog 75 #[.float .f64 4598175219545276416] w fun e w' => e = .returned (.float .f64 sR) ∧ w' = w := by
  have T := keep (fun w => fraction_quarter w)
  have o1 : FloatKind.f64.format.order 4598175219545276416 4602678819172646912 = some .lt := by decide +kernel
  have o2 : FloatKind.f64.format.order 4598175219545276416 4598175219545276416 = some .eq := by decide +kernel
  have f1 := zrun sine_first.1
  have f2 := zrun sine_first.2
  have f3 := zrun sine_last.1
  have SS := keep sine_step
  have SP := keep (fun (k : Nat) => (⟨sP k, rfl⟩ : ∃ z, z = sP k))
  generalize sR = R at *
  generalize sU = U at *
  generalize sZ = Z at *
  go_enter Tryz.func75, Tryz.ntmps75
  go_wp2_with fail
  refine (T.out _).mono ?_
  rintro e w' ⟨rfl, hw⟩
  have hw := hw.symm
  subst hw
  go_wp2_with fail
  go_loopw [8, 7] (fun kk pp wr => ∃ j : Nat, j ≤ 8 ∧ kk = .int .i64 (8 - (j : Int)) ∧ pp = .float .f64 (sP j) ∧ wr = w) (fun kk _ _ => (intOf kk).toNat)
  case atStart => exact ⟨0, by omega, rfl, rfl, rfl⟩
  case round =>
    obtain ⟨j, hj, rfl, rfl, hwr⟩ := hrel
    have hwr := hwr.symm
    subst hwr
    by_cases hlt : j < 8
    · obtain ⟨e1, e2, e3⟩ := SS.out j hlt
      have f1 := zrun e1
      have f2 := zrun e2
      have f3 := zrun e3
      have hge : (1 : Int) ≤ 8 - (j : Int) := by omega
      have ha : (2 * (8 - (j : Int)) * (2 * (8 - (j : Int)) + 1)) ≤ 1000 ∧ 0 ≤ (2 * (8 - (j : Int)) * (2 * (8 - (j : Int)) + 1)) := by
        obtain rfl | rfl | rfl | rfl | rfl | rfl | rfl | rfl : j = 0 ∨ j = 1 ∨ j = 2 ∨ j = 3 ∨ j = 4 ∨ j = 5 ∨ j = 6 ∨ j = 7 := by omega
        all_goals decide
      have hw1 : IntKind.i64.wrap (2 * (8 - (j : Int))) = 2 * (8 - (j : Int)) := IntWalk.i64_in _ ⟨by omega, by omega⟩
      have hw2 : IntKind.i64.wrap (2 * (8 - (j : Int)) + 1) = 2 * (8 - (j : Int)) + 1 := IntWalk.i64_in _ ⟨by omega, by omega⟩
      have hw3 : IntKind.i64.wrap (2 * (8 - (j : Int)) * (2 * (8 - (j : Int)) + 1)) = 2 * (8 - (j : Int)) * (2 * (8 - (j : Int)) + 1) := IntWalk.i64_in _ ⟨by omega, by omega⟩
      have hw4 : IntKind.i64.wrap (8 - (j : Int) - 1) = 8 - ((j + 1 : Nat) : Int) := by
        rw [IntWalk.i64_in _ ⟨by omega, by omega⟩]; omega
      have hme : (8 - ((j + 1 : Nat) : Int)).toNat < (8 - (j : Int)).toNat := by omega
      clear e1 e2 e3 ha
      generalize hk2 : (8 - ((j + 1 : Nat) : Int)) = K2 at *
      generalize hp1 : sP (j + 1) = P1 at *
      generalize hk : (8 - (j : Int)) = K at *
      generalize sP j = P0 at *
      generalize sM j = M0 at *
      generalize sQ j = Q0 at *
      go_wp2_with fail
      go_roundw
      case rel => exact ⟨j + 1, by omega, by rw [hk2], by rw [hp1], by first | trivial | rfl⟩
      case measure => simpa [intOf] using hme
    · obtain rfl : j = 8 := by omega
      generalize sP 8 = P8 at *
      go_wp2_with fail
      go_ret
      exact ⟨rfl, rfl⟩

set_option maxHeartbeats 1000000 in
set_option maxRecDepth 20000 in
theorem SineTurns_quarter (w : World) : Calls Tryz.prog 37 #[.float .f32 1048576000] w fun e w' => e = .returned (.float .f32 1065353216) ∧ ∃ m, w' = w.drewN m := by
  have S := keep (fun w => sine_quarter w)
  have IF := keep (fun w => isFinite64 4598175219545276416 w)
  rw [show fin .f64 4598175219545276416 = true by decide +kernel] at IF
  have AB := keep (fun w => Abs_any 4598175219545276416 w (by omega))
  have f1 := zconv32 1048576000 4598175219545276416 (by decide +kernel)
  have f2 := zconv64 _ _ sine_last.2
  have o1 : FloatKind.f64.format.order 4598175219545276416 4841369599423283200 = some .lt := by decide +kernel
  generalize sR = R at *
  go_enter Tryz.func37, Tryz.ntmps37
  go_wp2_with fail
  refine (IF.out _).mono ?_
  rintro e w' ⟨rfl, m, rfl⟩
  go_wp2_with fail
  refine (AB.out _).mono ?_
  rintro e w' ⟨rfl, hw⟩
  have hw := hw.symm
  subst hw
  go_wp2_with fail
  refine (S.out _).mono ?_
  rintro e w' ⟨rfl, hw⟩
  have hw := hw.symm
  subst hw
  go_wp2_with fail
  go_ret
  exact ⟨rfl, m, rfl⟩
end Go.Proofs.YtcmppipilihmkaaGreatDoor
