/- Contract: a number of eighths is wrapped into a side of a grid. -/
import Derived.Test.YtdonmboidpppmaaGd0
namespace Go.Proofs.Ytdonmboidpppmaa
open Go.RowKit Ieee

set_option maxHeartbeats 4000000 in
set_option maxRecDepth 20000 in
theorem wrap_any (x : Int) (side : Nat) (h0 : -112 ≤ x) (h1 : x ≤ 247) (h4 : 4 ≤ side) (h7 : side ≤ 7) (w : World) :
    Calls Try.prog 86 #[.float .f32 (wd single 3 x), .int .i64 side] w fun e w' => e = .returned (.float .f32 (wd single 3 (x % (8 * (side : Int))))) ∧ w' = w := by
  obtain ⟨D, q, p, d, r, e1, e2, ⟨s, m, i, e3⟩, e4, e5, e6, e7, e8⟩ := wrapChk_out (wrap_ok x side h0 h1 h4 h7)
  have f1 : ∀ w, (convert 32 43 (.float .f32 (wd single 3 x))).run Try.prog w = .ok (.float .f64 D) w := fun w => run_convert_float_float w 32 43 .f32 .f64 _ D (by rw [Try.underlying32]; rfl) Try.underlying43 e1
  have f2 : ∀ w, (binOp .quo 43 (.float .f64 D) (.float .f64 (floatOfInt .f64 (side : Int)))).run Try.prog w = .ok (.float .f64 q) w := fun w => run_float_arith w _ _ _ _ _ _ e2
  have f4 : ∀ w, (binOp .mul 43 (.float .f64 (floatOfInt .f64 (side : Int))) (.float .f64 (floorB q))).run Try.prog w = .ok (.float .f64 p) w := fun w => run_float_arith w _ _ _ _ _ _ e4
  have f5 : ∀ w, (binOp .sub 43 (.float .f64 D) (.float .f64 p)).run Try.prog w = .ok (.float .f64 d) w := fun w => run_float_arith w _ _ _ _ _ _ e5
  have f6 : ∀ w, (convert 43 32 (.float .f64 d)).run Try.prog w = .ok (.float .f32 r) w := fun w => run_convert_float_float w 43 32 .f64 .f32 _ r (by rw [Try.underlying43]; rfl) Try.underlying32 e6
  have FL := keep (Floor_any q s m i e3)
  have e7 : FloatKind.f32.format.order r (floatOfInt .f32 (side : Int)) = some .lt := e7
  clear e1 e2 e3 e4 e5 e6
  rcases e8 with ⟨e8, e9⟩ | ⟨e8, e9⟩
  · have e8 : FloatKind.f32.format.order r 0 = some .gt := e8
    have E9 := keep e9
    clear e9
    go_enter Try.func86, Try.ntmps86
    go_wp2_with (go_at_call 88; refine (FL.out _).mono ?_; rintro e w' ⟨rfl, rfl⟩)
    go_ret
    exact ⟨by rw [← E9.out]; rfl, rfl⟩
  · have e8 : FloatKind.f32.format.order r 0 = some .eq := e8
    rw [e9]
    clear e9
    go_enter Try.func86, Try.ntmps86
    go_wp2_with (go_at_call 88; refine (FL.out _).mono ?_; rintro e w' ⟨rfl, rfl⟩)
    go_ret
    exact ⟨rfl, rfl⟩
end Go.Proofs.Ytdonmboidpppmaa
