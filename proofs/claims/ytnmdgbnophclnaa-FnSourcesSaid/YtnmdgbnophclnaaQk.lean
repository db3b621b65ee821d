/- Contracts: the mean of a half with itself; two halves merged. -/
import Derived.Test.YtnmdgbnophclnaaQj
import Derived.Test.YtnmdgbnophclnaaGh
namespace Go.Proofs.Ytnmdgbnophclnaa
open Go.RowKit Go.Sort Ieee
set_option linter.unusedSimpArgs false

/-- The parts of the mean. -/
theorem mean_parts (m X : Int) (m0 : 1 ≤ m) (m1 : m ≤ 8) (h0 : -8 ≤ X) (h1 : X ≤ 63) : floatBits .mul .f32 (wd single 3 X) (wd single 3 m) = some (wd single 6 (X * m)) ∧ floatBits .add .f32 (wd single 6 (X * m)) (wd single 6 (X * m)) = some (wd single 6 (2 * X * m)) ∧ (2 * X * m).natAbs ≤ 4096 ∧ floatBits .quo .f64 (wd double (6 + 3) (2 * X * m * (2 * m))) (wd double (3 + 3) (2 * m * (2 * m))) = some (wd double 3 X) ∧ floatToFloatBits .f64 (wd double 3 X) .f32 = some (wd single 3 X) := by
  have b1 : (X * m).natAbs ≤ 63 * 8 := natAbs_mul_lt (by omega) (by omega)
  have e2 : 2 * X * m = X * m + X * m := by rw [Int.mul_assoc]; omega
  refine ⟨?_, ?_, by rw [e2]; omega, ?_, narrow_wd 3 X (by omega) (by omega)⟩
  · exact mul_wd_pos (f := single) fit_single binade_le_single (k := 3) (l := 3) (by omega) (by decide) (by decide) (by decide) (by show X.natAbs < 16777216; omega) (by show m.natAbs < 16777216; omega) (by show (X * m).natAbs < 16777216; omega)
  · rw [e2]
    exact fadd (by omega) (by omega) (by omega) (by omega)
  · have h := mean_quo X m h0 h1 m0 m1
    have a : 2 * X * m * (2 * m) = 4 * X * m * m := by grind
    have b : 2 * m * (2 * m) = 4 * m * m := by grind
    rw [a, b]
    exact h

def afterH (w : World) (p : GP) : World := (w.alloc (.cells #[.complex .f32 (wd single 3 p.x) (wd single 3 p.y), .complex .f32 (wd single 3 p.u) (wd single 3 p.v), .float .f32 (wd single 2 p.q), .float .f32 (wd single 3 p.m)] 52)).alloc (.cells #[.complex .f32 (wd single 3 p.x) (wd single 3 p.y), .complex .f32 (wd single 3 p.u) (wd single 3 p.v), .float .f32 (wd single 2 p.q), .float .f32 (wd single 3 p.m)] 52)

set_option maxHeartbeats 4000000 in
set_option maxRecDepth 20000 in
theorem between_ok (p : GP) (hp : p.ok) (X Y : Int) (x0 : -8 ≤ X) (x1 : X ≤ 63) (y0 : -8 ≤ Y) (y1 : Y ≤ 63) (w : World) : Calls Try.prog 76 #[.complex .f32 (wd single 3 X) (wd single 3 Y), .complex .f32 (wd single 3 X) (wd single 3 Y), p.halfD.agg, p.halfD.agg] w fun e w' => e = .returned (.complex .f32 (wd single 3 X) (wd single 3 Y)) ∧ Below w.heap.size w w' := by
  obtain ⟨_, _, _, _, _, ⟨m0, m1⟩⟩ := hp
  obtain ⟨a1, a2, a3, a4, a5⟩ := mean_parts p.m X m0 m1 x0 x1
  obtain ⟨b1, b2, b3, b4, b5⟩ := mean_parts p.m Y m0 m1 y0 y1
  have SC := keep (fun d os => Calls.regrown_of ((ScaleComplex_any _ _ _ _ _ a1 b1 (grow (redrawn (afterH w p) d) os)).mono fun e w' ⟨he, hw⟩ => ⟨he, hw ▸ Below.refl _ _⟩))
  have PL := keep (fun d os => Calls.regrown_of ((plus_any _ _ _ _ _ _ a2 b2 (grow (redrawn (afterH w p) d) os)).mono fun e w' ⟨he, hw⟩ => ⟨he, hw ▸ Below.refl _ _⟩))
  have QU := keep (fun d os => Calls.regrown_of ((quot_real 6 3 (by omega) (by omega) (2 * X * p.m) (2 * Y * p.m) (2 * p.m) a3 b3 (by omega) (by omega) _ _ _ _ a4 b4 a5 b5 (grow (redrawn (afterH w p) d) os)).mono fun e w' ⟨he, hw⟩ => ⟨he, hw ▸ Below.refl _ _⟩))
  have ee : p.m + p.m = 2 * p.m := by omega
  have f1' := fadd (k := 3) (a := p.m) (b := p.m) (by omega) (by omega) (by omega) (by omega)
  rw [ee] at f1'
  have f1 := frun f1'
  have S0 := keep ((Has.made w 52 #[.complex .f32 (wd single 3 p.x) (wd single 3 p.y), .complex .f32 (wd single 3 p.u) (wd single 3 p.v), .float .f32 (wd single 2 p.q), .float .f32 (wd single 3 p.m)]).beside (.cells #[.complex .f32 (wd single 3 p.x) (wd single 3 p.y), .complex .f32 (wd single 3 p.u) (wd single 3 p.v), .float .f32 (wd single 2 p.q), .float .f32 (wd single 3 p.m)] 52))
  have S1 : Kept (Has ((w.alloc (.cells #[.complex .f32 (wd single 3 p.x) (wd single 3 p.y), .complex .f32 (wd single 3 p.u) (wd single 3 p.v), .float .f32 (wd single 2 p.q), .float .f32 (wd single 3 p.m)] 52)).alloc (.cells #[.complex .f32 (wd single 3 p.x) (wd single 3 p.y), .complex .f32 (wd single 3 p.u) (wd single 3 p.v), .float .f32 (wd single 2 p.q), .float .f32 (wd single 3 p.m)] 52)) (w.heap.size + 1) 52 #[.complex .f32 (wd single 3 p.x) (wd single 3 p.y), .complex .f32 (wd single 3 p.u) (wd single 3 p.v), .float .f32 (wd single 2 p.q), .float .f32 (wd single 3 p.m)]) := keep (has_at _ _ _ _ (by simp))
  have k3 := cell_regrown (S0.out.cells 3)
  have l3 := cell_regrown (S1.out.cells 3)
  have B0 := keep (((Below.refl w.heap.size w).alloc (Nat.le_refl _) (.cells #[.complex .f32 (wd single 3 p.x) (wd single 3 p.y), .complex .f32 (wd single 3 p.u) (wd single 3 p.v), .float .f32 (wd single 2 p.q), .float .f32 (wd single 3 p.m)] 52)).alloc (by simp) (.cells #[.complex .f32 (wd single 3 p.x) (wd single 3 p.y), .complex .f32 (wd single 3 p.u) (wd single 3 p.v), .float .f32 (wd single 2 p.q), .float .f32 (wd single 3 p.m)] 52))
  unfold afterH at *
  clear a1 a2 a3 a4 a5 b1 b2 b3 b4 b5 f1' ee m0 m1 S0 S1 x0 x1 y0 y1
  unfold GP.halfD PD.agg
  go_enter Try.func76, Try.ntmps76
  go_wp2_with fail
  refine wp_region_quiet_below (by as_aux_lemma => kernel_rfl) (by as_aux_lemma => kernel_rfl) ?_
  repeat (any_goals (go_big_quiet_step (first | (with_reducible exact SC.out _ _) | (with_reducible exact PL.out _ _) | (with_reducible exact QU.out _ _))))
  refine wpQuiet_nil ?_
  intro w8 hw8
  obtain ⟨⟨d8, os8⟩, rfl⟩ := hw8
  have hb8 := below_regrown ((w.alloc (.cells #[.complex .f32 (wd single 3 p.x) (wd single 3 p.y), .complex .f32 (wd single 3 p.u) (wd single 3 p.v), .float .f32 (wd single 2 p.q), .float .f32 (wd single 3 p.m)] 52)).alloc (.cells #[.complex .f32 (wd single 3 p.x) (wd single 3 p.y), .complex .f32 (wd single 3 p.u) (wd single 3 p.v), .float .f32 (wd single 2 p.q), .float .f32 (wd single 3 p.m)] 52)) d8 os8
  generalize grow (redrawn _ d8) os8 = w9 at *
  have B9 := keep (B0.out.trans (hb8.mono B0.out.size))
  clear hb8
  go_wp2_with fail
  go_ret
  exact ⟨rfl, B9.out⟩

set_option maxHeartbeats 4000000 in
set_option maxRecDepth 20000 in
theorem between_w (p : GP) (hp : p.ok) (X Y : Int) (x0 : -8 ≤ X) (x1 : X ≤ 63) (y0 : -8 ≤ Y) (y1 : Y ≤ 63) (w : World) : Calls Try.prog 76 #[.complex .f32 (wd single 3 X) (wd single 3 Y), .complex .f32 (wd single 3 X) (wd single 3 Y), p.halfD.agg, p.halfD.agg] w fun e w' => e = .returned (.complex .f32 (wd single 3 X) (wd single 3 Y)) ∧ ∃ m, w' = (afterH w p).drewN m := by
  obtain ⟨_, _, _, _, _, ⟨m0, m1⟩⟩ := hp
  obtain ⟨a1, a2, a3, a4, a5⟩ := mean_parts p.m X m0 m1 x0 x1
  obtain ⟨b1, b2, b3, b4, b5⟩ := mean_parts p.m Y m0 m1 y0 y1
  have SC := keep (fun w => ScaleComplex_any _ _ _ _ _ a1 b1 w)
  have PL := keep (fun w => plus_any _ _ _ _ _ _ a2 b2 w)
  have QU := keep (fun w => quot_real 6 3 (by omega) (by omega) (2 * X * p.m) (2 * Y * p.m) (2 * p.m) a3 b3 (by omega) (by omega) _ _ _ _ a4 b4 a5 b5 w)
  have ee : p.m + p.m = 2 * p.m := by omega
  have f1' := fadd (k := 3) (a := p.m) (b := p.m) (by omega) (by omega) (by omega) (by omega)
  rw [ee] at f1'
  have f1 := frun f1'
  have S0 := keep ((Has.made w 52 #[.complex .f32 (wd single 3 p.x) (wd single 3 p.y), .complex .f32 (wd single 3 p.u) (wd single 3 p.v), .float .f32 (wd single 2 p.q), .float .f32 (wd single 3 p.m)]).beside (.cells #[.complex .f32 (wd single 3 p.x) (wd single 3 p.y), .complex .f32 (wd single 3 p.u) (wd single 3 p.v), .float .f32 (wd single 2 p.q), .float .f32 (wd single 3 p.m)] 52))
  have S1 : Kept (Has ((w.alloc (.cells #[.complex .f32 (wd single 3 p.x) (wd single 3 p.y), .complex .f32 (wd single 3 p.u) (wd single 3 p.v), .float .f32 (wd single 2 p.q), .float .f32 (wd single 3 p.m)] 52)).alloc (.cells #[.complex .f32 (wd single 3 p.x) (wd single 3 p.y), .complex .f32 (wd single 3 p.u) (wd single 3 p.v), .float .f32 (wd single 2 p.q), .float .f32 (wd single 3 p.m)] 52)) (w.heap.size + 1) 52 #[.complex .f32 (wd single 3 p.x) (wd single 3 p.y), .complex .f32 (wd single 3 p.u) (wd single 3 p.v), .float .f32 (wd single 2 p.q), .float .f32 (wd single 3 p.m)]) := keep (has_at _ _ _ _ (by simp))
  have k3 := S0.out.cells 3
  have l3 := S1.out.cells 3
  have EW := keep (show (afterH w p) = (w.alloc (.cells #[.complex .f32 (wd single 3 p.x) (wd single 3 p.y), .complex .f32 (wd single 3 p.u) (wd single 3 p.v), .float .f32 (wd single 2 p.q), .float .f32 (wd single 3 p.m)] 52)).alloc (.cells #[.complex .f32 (wd single 3 p.x) (wd single 3 p.y), .complex .f32 (wd single 3 p.u) (wd single 3 p.v), .float .f32 (wd single 2 p.q), .float .f32 (wd single 3 p.m)] 52) from rfl)
  rw [← EW.out] at k3 l3
  have SOF := keep (fun (wz : World) (hB : ∃ m, wz = (afterH w p).drewN m) => (by obtain ⟨m, rfl⟩ := hB; exact ⟨k3, l3, m, rfl⟩ : wz.cell? ⟨w.heap.size, 3, none⟩ = some (.float .f32 (wd single 3 p.m)) ∧ wz.cell? ⟨w.heap.size + 1, 3, none⟩ = some (.float .f32 (wd single 3 p.m)) ∧ ∃ m, wz = (afterH w p).drewN m))
  have D1 := keep (show (∃ m, (afterH w p).drew = (afterH w p).drewN m) from ⟨1, rfl⟩)
  clear a1 a2 a3 a4 a5 b1 b2 b3 b4 b5 f1' ee m0 m1 S0 S1 x0 x1 y0 y1
  unfold GP.halfD PD.agg
  go_enter Try.func76, Try.ntmps76
  go_wp2_with fail
  rw [← EW.out]
  clear EW
  generalize hW : afterH w p = W0 at *
  have HW := keep hW
  clear hW
  go_region_held (fun wz => wz.cell? ⟨w.heap.size, 3, none⟩ = some (.float .f32 (wd single 3 p.m)) ∧ wz.cell? ⟨w.heap.size + 1, 3, none⟩ = some (.float .f32 (wd single 3 p.m)) ∧ ∃ m, wz = W0.drewN m)
    (first | (with_reducible exact SOF.out _ D1.out) | (with_reducible assumption) | exact SOF.out _ ⟨_, rfl⟩)
    (first
      | ((with_reducible refine (SC.out _).mono ?_); rintro e w3 ⟨rfl, rfl⟩)
      | ((with_reducible refine (PL.out _).mono ?_); rintro e w3 ⟨rfl, rfl⟩)
      | ((with_reducible refine (QU.out _).mono ?_); rintro e w3 ⟨rfl, rfl⟩))
  all_goals
    go_wp2_with fail
    go_ret
    exact ⟨rfl, 1, by rw [HW.out]; rfl⟩
end Go.Proofs.Ytnmdgbnophclnaa
