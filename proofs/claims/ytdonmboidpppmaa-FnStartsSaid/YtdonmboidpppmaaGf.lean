/- Contracts: ways between places of eighths. -/
import Derived.Test.YtdonmboidpppmaaGe
namespace Go.Proofs.Ytdonmboidpppmaa
open Go.RowKit Go.Sort Ieee

/-- The shorter way along a side of W. -/
def wayI (d : Int) (W : Nat) : Int := if 4 * (W : Int) < d then d - 8 * W else if d < -(4 * (W : Int)) then d + 8 * W else d

theorem side_facts (W : Nat) (h4 : 4 ≤ W) (h7 : W ≤ 7) : floatBits .quo .f32 (floatOfInt .f32 (W : Int)) 1073741824 = some (wd single 3 (4 * (W : Int))) ∧ Op.negFloat .f32 (wd single 3 (4 * (W : Int))) = wd single 3 (-(4 * (W : Int))) ∧ floatOfInt .f32 (W : Int) = wd single 3 (8 * (W : Int)) := by
  have hs : W = 4 ∨ W = 5 ∨ W = 6 ∨ W = 7 := by omega
  rcases hs with rfl | rfl | rfl | rfl <;> decide +kernel

set_option maxHeartbeats 1000000 in
theorem less_ok (x1 y1 x2 y2 : Int) (h1 : x1.natAbs ≤ 1000) (h2 : y1.natAbs ≤ 1000) (h3 : x2.natAbs ≤ 1000) (h4 : y2.natAbs ≤ 1000) (w : World) : Calls Try.prog 76 #[placeV x1 y1, placeV x2 y2] w fun e w' => e = .returned (placeV (x1 - x2) (y1 - y2)) ∧ w' = w := by
  have f1 := frun (fsub (k := 3) (a := x1) (b := x2) (by omega) (by omega) (by omega) (by omega))
  have f2 := frun (fsub (k := 3) (a := y1) (b := y2) (by omega) (by omega) (by omega) (by omega))
  clear h1 h2 h3 h4
  unfold placeV
  go_enter Try.func76, Try.ntmps76
  go_wp2_with fail
  go_ret
  exact ⟨rfl, rfl⟩

set_option maxHeartbeats 1000000 in
theorem wayIn_ok (d : Int) (W : Nat) (h4 : 4 ≤ W) (h7 : W ≤ 7) (hd0 : -56 < d) (hd1 : d < 56) (w : World) : Calls Try.prog 78 #[.float .f32 (wd single 3 d), .int .i64 W] w fun e w' => e = .returned (.float .f32 (wd single 3 (wayI d W))) ∧ w' = w := by
  obtain ⟨e1, e2, e3⟩ := side_facts W h4 h7
  have f1 := frun e1
  have o1 := forder (k := 3) (a := d) (b := 4 * (W : Int)) (by omega) (by omega) (by omega)
  have o2 := forder (k := 3) (a := d) (b := -(4 * (W : Int))) (by omega) (by omega) (by omega)
  have f3 := frun (fsub (k := 3) (a := d) (b := 8 * (W : Int)) (by omega) (by omega) (by omega) (by omega))
  have f4 := frun (fadd (k := 3) (a := d) (b := 8 * (W : Int)) (by omega) (by omega) (by omega) (by omega))
  rw [← e3] at f3 f4
  have u1 : ∀ w, (Op.unary .neg (.float .f32 (wd single 3 (4 * (W : Int))))).run Try.prog w = .ok (.float .f32 (wd single 3 (-(4 * (W : Int))))) w := fun w => by
    rw [show Op.unary .neg (.float .f32 (wd single 3 (4 * (W : Int)))) = pure (.float .f32 (Op.negFloat .f32 (wd single 3 (4 * (W : Int))))) from rfl, e2]
    rfl
  clear e2
  unfold wayI
  by_cases c1 : 4 * (W : Int) < d
  · rw [if_pos c1]
    rw [Int.compare_eq_gt.2 c1] at o1
    clear e1 e3 o2 c1
    go_enter Try.func78, Try.ntmps78
    go_wp2_with fail
    go_ret
    exact ⟨rfl, rfl⟩
  · rw [if_neg c1]
    have n1 : FloatKind.f32.format.order (wd single 3 d) (wd single 3 (4 * (W : Int))) = some .lt ∨ FloatKind.f32.format.order (wd single 3 d) (wd single 3 (4 * (W : Int))) = some .eq := by
      rw [o1]
      rcases Int.lt_trichotomy d (4 * (W : Int)) with h | h | h
      · exact .inl (by rw [Int.compare_eq_lt.2 h])
      · exact .inr (by rw [Int.compare_eq_eq.2 h])
      · exact absurd h c1
    by_cases c2 : d < -(4 * (W : Int))
    · rw [if_pos c2]
      rw [Int.compare_eq_lt.2 c2] at o2
      clear e1 e3 o1 c1 c2
      rcases n1 with n1 | n1
      all_goals
        go_enter Try.func78, Try.ntmps78
        go_wp2_with fail
        go_ret
        exact ⟨rfl, rfl⟩
    · rw [if_neg c2]
      have n2 : FloatKind.f32.format.order (wd single 3 d) (wd single 3 (-(4 * (W : Int)))) = some .gt ∨ FloatKind.f32.format.order (wd single 3 d) (wd single 3 (-(4 * (W : Int)))) = some .eq := by
        rw [o2]
        rcases Int.lt_trichotomy d (-(4 * (W : Int))) with h | h | h
        · exact absurd h c2
        · exact .inr (by rw [Int.compare_eq_eq.2 h])
        · exact .inl (by rw [Int.compare_eq_gt.2 h])
      clear e1 e3 o1 o2 c1 c2
      rcases n1 with n1 | n1 <;> rcases n2 with n2 | n2
      all_goals
        go_enter Try.func78, Try.ntmps78
        go_wp2_with fail
        go_ret
        exact ⟨rfl, rfl⟩

set_option maxHeartbeats 1000000 in
theorem wayBetween_ok (W H : Nat) (h : Sides W H) (x1 y1 x2 y2 : Int) (hp : PlaceOk x1 y1) (hq : PlaceOk x2 y2) (w : World) : Calls Try.prog 58 #[gridV W H, placeV x1 y1, placeV x2 y2] w fun e w' => e = .returned (placeV (wayI (md x2 W - md x1 W) W) (wayI (md y2 H - md y1 H) H)) ∧ Below w.heap.size w w' := by
  have A := keep (fun w d os => Calls.regrown_of (wrapPlace_ok W H h x1 y1 hp (grow (redrawn w d) os)))
  have B := keep (fun w d os => Calls.regrown_of (wrapPlace_ok W H h x2 y2 hq (grow (redrawn w d) os)))
  obtain ⟨⟨h1, h2⟩, h3, h4⟩ := h
  obtain ⟨a0, a1⟩ := md_bounds x1 W h1
  obtain ⟨b0, b1⟩ := md_bounds y1 H h3
  obtain ⟨c0, c1⟩ := md_bounds x2 W h1
  obtain ⟨d0, d1⟩ := md_bounds y2 H h3
  have L := keep (fun w d os => Calls.regrown_of ((less_ok (md x2 W) (md y2 H) (md x1 W) (md y1 H) (by omega) (by omega) (by omega) (by omega) (grow (redrawn w d) os)).mono fun _ _ ⟨he, hw⟩ => ⟨he, hw ▸ Below.refl _ _⟩))
  have X := keep (fun w d os => Calls.regrown_of ((wayIn_ok (md x2 W - md x1 W) W h1 h2 (by omega) (by omega) (grow (redrawn w d) os)).mono fun _ _ ⟨he, hw⟩ => ⟨he, hw ▸ Below.refl _ _⟩))
  have Y := keep (fun w d os => Calls.regrown_of ((wayIn_ok (md y2 H - md y1 H) H h3 h4 (by omega) (by omega) (grow (redrawn w d) os)).mono fun _ _ ⟨he, hw⟩ => ⟨he, hw ▸ Below.refl _ _⟩))
  have P := keep (Has.made w 25 #[.int .i64 W, .int .i64 H])
  have k0 := cell_regrown (P.out.cells 0)
  have k1 := cell_regrown (P.out.cells 1)
  clear h1 h2 h3 h4 a0 a1 b0 b1 c0 c1 d0 d1 hp hq
  unfold gridV placeV at *
  go_enter Try.func58, Try.ntmps58
  go_wp2_with fail
  refine wp_region_quiet_below (by as_aux_lemma => kernel_rfl) (by as_aux_lemma => kernel_rfl) ?_
  repeat (any_goals (go_big_quiet_step (first | (with_reducible exact A.out _ _ _) | (with_reducible exact B.out _ _ _) | (with_reducible exact L.out _ _ _))))
  refine wpQuiet_nil ?_
  intro w2 hw2
  obtain ⟨⟨d2, os2⟩, rfl⟩ := hw2
  have hb2 := below_regrown (w.alloc (.cells #[.int .i64 W, .int .i64 H] 25)) d2 os2
  generalize grow (redrawn (w.alloc (.cells #[.int .i64 W, .int .i64 H] 25)) d2) os2 = w2 at *
  have hB := ((Below.refl w.heap.size w).alloc (Nat.le_refl _) (.cells #[.int .i64 W, .int .i64 H] 25)).trans (hb2.mono (by simp))
  have p2 := P.out.after hb2
  have k0 := cell_regrown (p2.cells 0)
  have k1 := cell_regrown (p2.cells 1)
  clear hb2 p2
  go_wp2_with fail
  refine wp_region_quiet_below (by as_aux_lemma => kernel_rfl) (by as_aux_lemma => kernel_rfl) ?_
  repeat (any_goals (go_big_quiet_step (first | (with_reducible exact X.out _ _ _) | (with_reducible exact Y.out _ _ _))))
  refine wpQuiet_nil ?_
  intro w3 hw3
  obtain ⟨⟨d3, os3⟩, rfl⟩ := hw3
  have hb3 := below_regrown w2 d3 os3
  generalize grow (redrawn w2 d3) os3 = w3 at *
  clear k0 k1
  go_wp2_with fail
  go_ret
  exact ⟨rfl, hB.trans (hb3.mono hB.size)⟩

set_option maxHeartbeats 1000000 in
theorem WayBetween_ok (W H : Nat) (h : Sides W H) (x1 y1 x2 y2 : Int) (hp : PlaceOk x1 y1) (hq : PlaceOk x2 y2) (w : World) : Calls Try.prog 28 #[gridV W H, placeV x1 y1, placeV x2 y2] w fun e w' => e = .returned (.tuple #[placeV (wayI (md x2 W - md x1 W) W) (wayI (md y2 H - md y1 H) H), .bool true]) ∧ Below w.heap.size w w' := by
  have A := keep (fun w => isPlace_ok W H h _ _ hp.fin w)
  have B := keep (fun w => isPlace_ok W H h _ _ hq.fin w)
  have L := keep (fun w => wayBetween_ok W H h x1 y1 x2 y2 hp hq w)
  have P := keep (Has.made w 25 #[.int .i64 W, .int .i64 H])
  clear hp hq h
  unfold gridV placeV at *
  go_enter Try.func28, Try.ntmps28
  go_wp2_with fail
  refine (A.out _).mono ?_
  rintro e w1 ⟨rfl, hb⟩
  have hB := ((Below.refl w.heap.size w).alloc (Nat.le_refl _) (.cells #[.int .i64 W, .int .i64 H] 25)).trans (hb.mono (by simp))
  have p1 := P.out.after hb
  have c1 := p1.cells
  clear hb
  go_wp2_with fail
  refine (B.out _).mono ?_
  rintro e w2 ⟨rfl, hb⟩
  have hB2 := hB.trans (hb.mono hB.size)
  have p2 := p1.after hb
  have c1 := p2.cells
  clear hb
  go_wp2_with fail
  refine (L.out _).mono ?_
  rintro e w3 ⟨rfl, hb⟩
  have hB3 := hB2.trans (hb.mono hB2.size)
  clear hb c1
  go_wp2_with fail
  go_ret2
  exact ⟨rfl, hB3⟩
end Go.Proofs.Ytdonmboidpppmaa
