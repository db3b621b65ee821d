/- Contracts of the grid's own functions at places of eighths: valid grids, places, wrapped places, corners, indexes. -/
import Derived.Test.YtdonmboidpppmaaGd
import Derived.Test.YtdonmboidpppmaaFy
import Derived.Test.YtdonmboidpppmaaWords
import Derived.Lib.QuietBelow
import Derived.Deep.QuietTactic
import Derived.BigQuiet
namespace Go.Proofs.Ytdonmboidpppmaa
open Go.RowKit Go.Sort Ieee

theorem frun {op : BinOp} {k : FloatKind} {x y r : Nat} (h : floatBits op k x y = some r) : ∀ (t : TypeId) (w : World), (binOp op t (.float k x) (.float k y)).run Try.prog w = .ok (.float k r) w := fun t w => run_float_arith w op t k x y r h
theorem fadd {k : Nat} {a b : Int} (hk : k ≤ 100) (ha : a.natAbs < 16777216) (hb : b.natAbs < 16777216) (hn : (a + b).natAbs < 16777216) : floatBits .add .f32 (wd single k a) (wd single k b) = some (wd single k (a + b)) := add_wd fit_single binade_le_single (by show k + 23 ≤ 149; omega) ha hb hn
theorem fsub {k : Nat} {a b : Int} (hk : k ≤ 100) (ha : a.natAbs < 16777216) (hb : b.natAbs < 16777216) (hn : (a - b).natAbs < 16777216) : floatBits .sub .f32 (wd single k a) (wd single k b) = some (wd single k (a - b)) := sub_wd fit_single binade_le_single (by show k + 23 ≤ 149; omega) ha hb hn
theorem fmul {k l : Nat} {a b : Int} (ha0 : 0 ≤ a) (hb0 : 0 ≤ b) (hk : k ≤ 60) (hl : l ≤ 60) (ha : a.natAbs < 16777216) (hb : b.natAbs < 16777216) (hn : (a * b).natAbs < 16777216) : floatBits .mul .f32 (wd single k a) (wd single l b) = some (wd single (k + l) (a * b)) :=
  mul_wd fit_single binade_le_single ha0 hb0 (by show k + 23 ≤ 149; omega) (by show l + 23 ≤ 149; omega) (by show k + l + 23 ≤ 149; omega) ha hb hn
theorem forder {k : Nat} {a b : Int} (hk : k ≤ 100) (ha : a.natAbs < 16777216) (hb : b.natAbs < 16777216) : FloatKind.f32.format.order (wd single k a) (wd single k b) = some (compare a b) := order_wd fit_single (by show k + 23 ≤ 149; omega) ha hb
theorem fin_wd (k : Nat) (a : Int) (hk : k ≤ 100) (ha : a.natAbs < 16777216) : fin .f32 (wd single k a) = true := by
  obtain ⟨s, m, i, h⟩ := read_wd k a (by omega) ha
  unfold fin
  rw [show FloatKind.f32.format.read (wd single k a) = .number s m i from h]
/-- An integer as a number. -/
theorem ofInt_wd (n : Int) : floatOfInt .f32 n = wd single 0 n := rfl

def okGrid (a b : Int) : Bool := (decide (4 ≤ a) && decide (a ≤ 16)) && (decide (4 ≤ b) && decide (b ≤ 16))
set_option maxHeartbeats 1000000 in
theorem ValidGrid_any (a b : Int) (w : World) : Calls Try.prog 34 #[.agg #[.int .i64 a, .int .i64 b]] w fun e w' => e = .returned (.bool (okGrid a b)) ∧ Below w.heap.size w w' := by
  unfold okGrid
  have H := keep (fun n w => within_any n 4 16 w)
  cases h : (decide (4 ≤ a) && decide (a ≤ 16))
  all_goals
    have h1 := H.out a
    rw [h] at h1
    have H1 := keep h1
    clear h1 h
    go_enter Try.func34, Try.ntmps34
    go_wp2_with fail
    refine (H1.out _).mono ?_
    rintro e w' ⟨rfl, rfl⟩
    go_wp2_with fail
  · go_ret
    exact ⟨by simp, by go_grown⟩
  · refine (H.out _ _).mono ?_
    rintro e w' ⟨rfl, rfl⟩
    go_wp2_with fail
    go_ret
    exact ⟨by simp, by go_grown⟩
/-- A grid of the laws. -/
def Sides (W H : Nat) : Prop := (4 ≤ W ∧ W ≤ 7) ∧ (4 ≤ H ∧ H ≤ 7)
theorem Sides.ok {W H : Nat} (h : Sides W H) : okGrid W H = true := by
  obtain ⟨⟨h1, h2⟩, h3, h4⟩ := h
  unfold okGrid
  simp only [Bool.and_eq_true, decide_eq_true_eq]
  omega
def gridV (W H : Nat) : Value := .agg #[.int .i64 W, .int .i64 H]
theorem ValidGrid_ok (W H : Nat) (h : Sides W H) (w : World) : Calls Try.prog 34 #[gridV W H] w fun e w' => e = .returned (.bool true) ∧ Below w.heap.size w w' := by
  have hv := ValidGrid_any W H w
  rw [h.ok] at hv
  exact hv

set_option maxHeartbeats 1000000 in
theorem isPlace_ok (W H : Nat) (h : Sides W H) (a b : Nat) (hf : finC a b = true) (w : World) : Calls Try.prog 42 #[gridV W H, .complex .f32 a b] w fun e w' => e = .returned (.bool true) ∧ Below w.heap.size w w' := by
  have V := keep (fun w => ValidGrid_ok W H h w)
  have I := fun w => IsFiniteC a b w
  rw [hf] at I
  have I := keep I
  clear hf h
  unfold gridV
  unfold gridV at V
  go_enter Try.func42, Try.ntmps42
  go_wp2_with fail
  refine (V.out _).mono ?_
  rintro e w1 ⟨rfl, hb⟩
  have hB := keep (((Below.refl w.heap.size w).alloc (Nat.le_refl _) (.cells #[.int .i64 W, .int .i64 H] 25)).trans (hb.mono (by simp)))
  go_wp2_with fail
  refine (I.out _).mono ?_
  rintro e w' ⟨rfl, m, rfl⟩
  go_wp2_with fail
  go_ret
  exact ⟨rfl, Below.drewN_of hB.out _⟩

/-- A place of eighths. -/
def PlaceOk (x y : Int) : Prop := (-112 ≤ x ∧ x ≤ 247) ∧ (-112 ≤ y ∧ y ≤ 247)
def placeV (x y : Int) : Value := .complex .f32 (wd single 3 x) (wd single 3 y)
theorem PlaceOk.fin {x y : Int} (h : PlaceOk x y) : finC (wd single 3 x) (wd single 3 y) = true := by
  obtain ⟨⟨h1, h2⟩, h3, h4⟩ := h
  unfold finC
  rw [fin_wd 3 x (by omega) (by omega), fin_wd 3 y (by omega) (by omega)]
  rfl
/-- The remainder of a place in a side. -/
def md (x : Int) (W : Nat) : Int := x % (8 * (W : Int))
theorem md_bounds (x : Int) (W : Nat) (h : 4 ≤ W) : 0 ≤ md x W ∧ md x W < 8 * (W : Int) := ⟨Int.emod_nonneg x (by omega), Int.emod_lt_of_pos x (by omega)⟩

theorem wrap_md (x : Int) (W : Nat) (h0 : -112 ≤ x) (h1 : x ≤ 247) (h4 : 4 ≤ W) (h7 : W ≤ 7) (w : World) :
    Calls Try.prog 86 #[.float .f32 (wd single 3 x), .int .i64 W] w fun e w' => e = .returned (.float .f32 (wd single 3 (md x W))) ∧ w' = w := wrap_any x W h0 h1 h4 h7 w

set_option maxHeartbeats 1000000 in
theorem wrapPlace_ok (W H : Nat) (h : Sides W H) (x y : Int) (hp : PlaceOk x y) (w : World) : Calls Try.prog 77 #[gridV W H, placeV x y] w fun e w' => e = .returned (placeV (md x W) (md y H)) ∧ Below w.heap.size w w' := by
  obtain ⟨⟨h1, h2⟩, h3, h4⟩ := h
  obtain ⟨⟨p1, p2⟩, p3, p4⟩ := hp
  have A := keep (fun w d os => Calls.regrown_of ((wrap_md x W p1 p2 h1 h2 (grow (redrawn w d) os)).mono fun _ _ ⟨he, hw⟩ => ⟨he, hw ▸ Below.refl _ _⟩))
  have B := keep (fun w d os => Calls.regrown_of ((wrap_md y H p3 p4 h3 h4 (grow (redrawn w d) os)).mono fun _ _ ⟨he, hw⟩ => ⟨he, hw ▸ Below.refl _ _⟩))
  have c := (Has.made w 25 #[.int .i64 W, .int .i64 H]).cells
  have c0 := cell_regrown (c 0)
  have c1 := cell_regrown (c 1)
  clear c h1 h2 h3 h4 p1 p2 p3 p4
  unfold gridV placeV
  go_enter Try.func77, Try.ntmps77
  go_wp2_with fail
  refine wp_region_quiet_below (by as_aux_lemma => kernel_rfl) (by as_aux_lemma => kernel_rfl) ?_
  repeat (any_goals (go_big_quiet_step (first | (with_reducible exact A.out _ _ _) | (with_reducible exact B.out _ _ _))))
  refine wpQuiet_nil ?_
  intro w2 hw2
  obtain ⟨⟨d2, os2⟩, rfl⟩ := hw2
  have hb2 := below_regrown (w.alloc (.cells #[.int .i64 W, .int .i64 H] 25)) d2 os2
  generalize grow (redrawn (w.alloc (.cells #[.int .i64 W, .int .i64 H] 25)) d2) os2 = w2 at *
  have hB := ((Below.refl w.heap.size w).alloc (Nat.le_refl _) (.cells #[.int .i64 W, .int .i64 H] 25)).trans (hb2.mono (by simp))
  clear c0 c1 hb2
  go_wp2_with fail
  go_ret
  exact ⟨rfl, hB⟩

theorem whole_all : ∀ n : Fin 64, floatToIntVal .f32 (wd single 3 (n.val : Int)) .i64 = some ((n.val : Int) / 8) := by decide +kernel
theorem run_whole (n : Int) (h0 : 0 ≤ n) (h1 : n < 64) (w : World) : (convert 32 2 (.float .f32 (wd single 3 n))).run Try.prog w = .ok (.int .i64 (n / 8)) w := by
  have h := whole_all ⟨n.toNat, by omega⟩
  rw [show ((n.toNat : Nat) : Int) = n by omega] at h
  exact run_convert_float_int w 32 2 .f32 .i64 _ (n / 8) (by rw [Try.underlying32]; rfl) Try.underlying2 h

set_option maxHeartbeats 1000000 in
theorem cornerOf_ok (W H : Nat) (h : Sides W H) (x y : Int) (hp : PlaceOk x y) (w : World) : Calls Try.prog 80 #[gridV W H, placeV x y] w fun e w' => e = .returned (.tuple #[.int .i64 (md x W / 8), .int .i64 (md y H / 8)]) ∧ Below w.heap.size w w' := by
  have WP := keep (fun w => wrapPlace_ok W H h x y hp w)
  obtain ⟨⟨h1, h2⟩, h3, h4⟩ := h
  obtain ⟨m0, m1⟩ := md_bounds x W h1
  obtain ⟨n0, n1⟩ := md_bounds y H h3
  have f1 := run_whole (md x W) m0 (by omega)
  have f2 := run_whole (md y H) n0 (by omega)
  clear hp h1 h2 h3 h4 m0 m1 n0 n1
  unfold gridV placeV at *
  go_enter Try.func80, Try.ntmps80
  go_wp2_with fail
  refine (WP.out _).mono ?_
  rintro e w1 ⟨rfl, hb⟩
  have hB := ((Below.refl w.heap.size w).alloc (Nat.le_refl _) (.cells #[.int .i64 W, .int .i64 H] 25)).trans (hb.mono (by simp))
  clear hb
  go_wp2_with fail
  go_ret2
  exact ⟨rfl, hB⟩

/-- The index of a corner, around the edges. -/
def idx (W H : Nat) (x y : Int) : Int := x % (W : Int) + W * (y % (H : Int))
set_option maxHeartbeats 1000000 in
theorem index_w (W H : Nat) (h : Sides W H) (x y : Int) (hx0 : -16 ≤ x) (hx1 : x ≤ 100) (hy0 : -16 ≤ y) (hy1 : y ≤ 100) (w : World) : Calls Try.prog 81 #[gridV W H, .int .i64 x, .int .i64 y] w fun e w' => e = .returned (.int .i64 (idx W H x y)) ∧ ∃ m, w' = (w.alloc (.cells #[.int .i64 W, .int .i64 H] 25)).drewN m := by
  obtain ⟨⟨h1, h2⟩, h3, h4⟩ := h
  have i1 : (4 : Int) ≤ (W : Int) := by omega
  have i2 : (W : Int) ≤ 7 := by omega
  have i3 : (4 : Int) ≤ (H : Int) := by omega
  have i4 : (H : Int) ≤ 7 := by omega
  have c := (Has.made w 25 #[.int .i64 W, .int .i64 H]).cells
  have q1 : (x + 4 * (W : Int)) % (W : Int) = x % (W : Int) := by rw [Int.add_mul_emod_self_right]
  have q2 : (y + 4 * (H : Int)) % (H : Int) = y % (H : Int) := by rw [Int.add_mul_emod_self_right]
  have b0 := Int.emod_nonneg x (show (W : Int) ≠ 0 by omega)
  have b1 := Int.emod_lt_of_pos x (show (0 : Int) < (W : Int) by omega)
  have b2 := Int.emod_nonneg y (show (H : Int) ≠ 0 by omega)
  have b3 := Int.emod_lt_of_pos y (show (0 : Int) < (H : Int) by omega)
  have t0 : 0 ≤ (W : Int) * (y % (H : Int)) := Int.mul_nonneg (by omega) b2
  have t1 : (W : Int) * (y % (H : Int)) ≤ 7 * 7 := Int.mul_le_mul i2 (by omega) b2 (by omega)
  have w1 : IntKind.i64.wrap (x + 4 * (W : Int)) = x + 4 * (W : Int) := IntWalk.i64_in _ ⟨by omega, by omega⟩
  have w2 : IntKind.i64.wrap (y + 4 * (H : Int)) = y + 4 * (H : Int) := IntWalk.i64_in _ ⟨by omega, by omega⟩
  have w3 : IntKind.i64.wrap ((W : Int) * (y % (H : Int))) = (W : Int) * (y % (H : Int)) := IntWalk.i64_in _ ⟨by omega, by omega⟩
  have w4 : IntKind.i64.wrap (x % (W : Int) + (W : Int) * (y % (H : Int))) = x % (W : Int) + (W : Int) * (y % (H : Int)) := IntWalk.i64_in _ ⟨by omega, by omega⟩
  unfold gridV idx
  clear h1 h2 h3 h4
  go_enter Try.func81, Try.ntmps81
  go_wp2_with fail
  go_quiet (fail)
  clear q1 q2 b0 b1 b2 b3 t0 t1 w1 w2 w3 w4
  go_wp2_with fail
  go_ret
  exact ⟨rfl, _, rfl⟩
theorem index_ok (W H : Nat) (h : Sides W H) (x y : Int) (hx0 : -16 ≤ x) (hx1 : x ≤ 100) (hy0 : -16 ≤ y) (hy1 : y ≤ 100) (w : World) : Calls Try.prog 81 #[gridV W H, .int .i64 x, .int .i64 y] w fun e w' => e = .returned (.int .i64 (idx W H x y)) ∧ Below w.heap.size w w' :=
  (index_w W H h x y hx0 hx1 hy0 hy1 w).mono fun _ _ ⟨he, _, hw⟩ => ⟨he, hw ▸ Below.drewN_of ((Below.refl w.heap.size w).alloc (Nat.le_refl _) _) _⟩
end Go.Proofs.Ytdonmboidpppmaa
