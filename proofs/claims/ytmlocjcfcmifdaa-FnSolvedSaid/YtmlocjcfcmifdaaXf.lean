/- Contracts: a grid's index, size and neighbours, for sides from 4 to 16; what is a field. -/
import Derived.Test.YtmlocjcfcmifdaaXb
import Derived.Lib.QuietBelow
import Derived.Deep.QuietTactic
import Derived.Deep.RegionHeld
namespace Go.Proofs.Ytmlocjcfcmifdaa
open Go.RowKit Go.Sort Ieee
set_option linter.unusedSimpArgs false
set_option linter.unusedVariables false

/-- The sides of a valid grid. -/
def Sd (W H : Nat) : Prop := (4 ≤ W ∧ W ≤ 16) ∧ (4 ≤ H ∧ H ≤ 16)
def gV (W H : Nat) : Value := .agg #[.int .i64 W, .int .i64 H]
theorem sd_le (W H : Nat) (h : Sd W H) : 16 ≤ W * H ∧ W * H ≤ 256 := by
  obtain ⟨⟨h1, h2⟩, h3, h4⟩ := h
  exact ⟨Nat.mul_le_mul (m₁ := 4) (n₁ := 4) h1 h3, Nat.mul_le_mul (m₂ := 16) (n₂ := 16) h2 h4⟩

set_option maxHeartbeats 1000000 in
theorem xValidGrid (W H : Nat) (h : Sd W H) (w : World) : Calls Try.prog 69 #[gV W H] w fun e w' => e = .returned (.bool true) ∧ Below w.heap.size w w' := by
  have W1 : Kept (∀ w, Calls Try.prog 43 #[.int .i64 W, .int .i64 4, .int .i64 16] w fun e w' => e = .returned (.bool true) ∧ w' = w) := keep (fun w => (within_any W 4 16 w).mono fun e w' ⟨he, hw⟩ => ⟨by rw [he]; congr 2; simp; have := h.1; omega, hw⟩)
  have W2 : Kept (∀ w, Calls Try.prog 43 #[.int .i64 H, .int .i64 4, .int .i64 16] w fun e w' => e = .returned (.bool true) ∧ w' = w) := keep (fun w => (within_any H 4 16 w).mono fun e w' ⟨he, hw⟩ => ⟨by rw [he]; congr 2; simp; have := h.2; omega, hw⟩)
  unfold gV
  go_enter Try.func69, Try.ntmps69
  go_wp2_with fail
  refine (W1.out _).mono ?_
  rintro e w' ⟨rfl, rfl⟩
  go_wp2_with fail
  refine (W2.out _).mono ?_
  rintro e w' ⟨rfl, rfl⟩
  go_wp2_with fail
  go_ret
  exact ⟨rfl, by go_grown⟩

set_option maxHeartbeats 1000000 in
theorem xsize (W H : Nat) (h : Sd W H) (w : World) : Calls Try.prog 81 #[gV W H] w fun e w' => e = .returned (.int .i64 ((W * H : Nat) : Int)) ∧ Below w.heap.size w w' := by
  have hb := sd_le W H h
  have e : ((W * H : Nat) : Int) = (W : Int) * (H : Int) := Int.natCast_mul ..
  have hw : IntKind.i64.wrap ((W : Int) * (H : Int)) = (W : Int) * (H : Int) := by rw [← e]; exact IntWalk.i64_in _ ⟨by omega, by omega⟩
  rw [e]
  clear hb e h
  unfold gV
  go_enter Try.func81, Try.ntmps81
  go_wp2_with fail
  go_ret
  exact ⟨rfl, by go_grown⟩

theorem xlength (a : Option Addr) (n c : Nat) (w : World) : Calls Try.prog 80 #[.slice a n c] w fun e w' => e = .returned (.int .i64 n) ∧ w' = w := by
  go_enter Try.func80, Try.ntmps80
  go_wp2_with fail
  go_ret
  exact ⟨rfl, rfl⟩

set_option maxHeartbeats 2000000 in
set_option maxRecDepth 20000 in
theorem xIsField (W H : Nat) (h : Sd W H) (a : Option Addr) (c : Nat) (w : World) : Calls Try.prog 50 #[gV W H, .slice a (W * H) c] w fun e w' => e = .returned (.bool true) ∧ Below w.heap.size w w' := by
  have A := keep (fun w d os => Calls.regrown_of (xValidGrid W H h (grow (redrawn w d) os)))
  have B := keep (fun w d os => Calls.regrown_of (xsize W H h (grow (redrawn w d) os)))
  have C := keep (fun n w d os => Calls.regrown_of ((xlength a n c (grow (redrawn w d) os)).mono fun _ _ ⟨he, hw⟩ => ⟨he, hw ▸ Below.refl _ _⟩))
  have P := keep (Has.made w 36 #[.int .i64 W, .int .i64 H])
  have k0 := cell_regrown (P.out.cells 0)
  have k1 := cell_regrown (P.out.cells 1)
  have B0 := keep ((Below.refl w.heap.size w).alloc (Nat.le_refl _) (.cells #[.int .i64 W, .int .i64 H] 36))
  generalize W * H = n at *
  have hbn : ((n : Int) == (n : Int)) = true := by simp
  clear h
  unfold gV at *
  go_enter Try.func50, Try.ntmps50
  go_wp2_with fail
  refine wp_region_quiet_below (by as_aux_lemma => kernel_rfl) (by as_aux_lemma => kernel_rfl) ?_
  repeat (any_goals (go_big_quiet_step (first | (with_reducible exact A.out _ _ _) | (with_reducible exact B.out _ _ _) | (with_reducible exact C.out _ _ _ _))))
  refine wpQuiet_nil ?_
  intro w2 hw2
  obtain ⟨⟨d2, os2⟩, rfl⟩ := hw2
  have hb2 := below_regrown (w.alloc (.cells #[.int .i64 W, .int .i64 H] 36)) d2 os2
  generalize grow (redrawn (w.alloc (.cells #[.int .i64 W, .int .i64 H] 36)) d2) os2 = w2 at *
  have hB := B0.out.trans (hb2.mono (by simp))
  clear k0 k1 hb2
  go_wp2_with fail
  go_ret
  exact ⟨rfl, hB⟩

theorem xareFields (W H : Nat) (h : Sd W H) (a b : Option Addr) (c d : Nat) (w : World) : Calls Try.prog 46 #[gV W H, .slice a (W * H) c, .slice b (W * H) d] w fun e w' => e = .returned (.bool true) ∧ Below w.heap.size w w' := by
  have IF := keep (fun a c w => xIsField W H h a c w)
  have P := keep (Has.made w 36 #[.int .i64 W, .int .i64 H])
  have B0 := keep ((Below.refl w.heap.size w).alloc (Nat.le_refl _) (.cells #[.int .i64 W, .int .i64 H] 36))
  generalize W * H = n at *
  clear h
  unfold gV at *
  go_enter Try.func46, Try.ntmps46
  go_wp2_with fail
  refine (IF.out _ _ _).mono ?_
  rintro e w1 ⟨rfl, hb⟩
  have p1 := P.out.after hb
  have cg := p1.cells
  have B1 := keep (B0.out.trans (hb.mono B0.out.size))
  clear hb P B0 p1
  go_wp2_with fail
  refine (IF.out _ _ _).mono ?_
  rintro e w2 ⟨rfl, hb⟩
  have B2 := keep (B1.out.trans (hb.mono B1.out.size))
  clear hb B1 IF cg
  go_wp2_with fail
  go_ret
  exact ⟨rfl, B2.out⟩

/-- The index of a corner, around the edges. -/
def ix (W H : Nat) (x y : Int) : Nat := (x % (W : Int) + W * (y % (H : Int))).toNat
theorem ix_eq (W H : Nat) (h : Sd W H) (x y : Int) : (ix W H x y : Int) = x % (W : Int) + W * (y % (H : Int)) ∧ ix W H x y < W * H := by
  obtain ⟨⟨h1, h2⟩, h3, h4⟩ := h
  have b0 := Int.emod_nonneg x (show (W : Int) ≠ 0 by omega)
  have b1 := Int.emod_lt_of_pos x (show (0 : Int) < (W : Int) by omega)
  have b2 := Int.emod_nonneg y (show (H : Int) ≠ 0 by omega)
  have b3 := Int.emod_lt_of_pos y (show (0 : Int) < (H : Int) by omega)
  have t0 : 0 ≤ (W : Int) * (y % (H : Int)) := Int.mul_nonneg (by omega) b2
  have t1 : (W : Int) * (y % (H : Int)) ≤ (W : Int) * ((H : Int) - 1) := Int.mul_le_mul_of_nonneg_left (by omega) (by omega)
  have t2 : (W : Int) * ((H : Int) - 1) = (W : Int) * (H : Int) - W := by rw [Int.mul_sub, Int.mul_one]
  have t3 : ((W * H : Nat) : Int) = (W : Int) * (H : Int) := Int.natCast_mul ..
  unfold ix
  constructor
  · omega
  · omega

set_option maxHeartbeats 1000000 in
theorem xindex_w (W H : Nat) (h : Sd W H) (x y : Int) (hx0 : -16 ≤ x) (hx1 : x ≤ 100) (hy0 : -16 ≤ y) (hy1 : y ≤ 100) (w : World) : Calls Try.prog 49 #[gV W H, .int .i64 x, .int .i64 y] w fun e w' => e = .returned (.int .i64 (ix W H x y)) ∧ ∃ m, w' = (w.alloc (.cells #[.int .i64 W, .int .i64 H] 36)).drewN m := by
  rw [(ix_eq W H h x y).1]
  obtain ⟨⟨h1, h2⟩, h3, h4⟩ := h
  have i1 : (4 : Int) ≤ (W : Int) := by omega
  have i2 : (W : Int) ≤ 16 := by omega
  have i3 : (4 : Int) ≤ (H : Int) := by omega
  have i4 : (H : Int) ≤ 16 := by omega
  have c := (Has.made w 36 #[.int .i64 W, .int .i64 H]).cells
  have q1 : (x + 4 * (W : Int)) % (W : Int) = x % (W : Int) := by rw [Int.add_mul_emod_self_right]
  have q2 : (y + 4 * (H : Int)) % (H : Int) = y % (H : Int) := by rw [Int.add_mul_emod_self_right]
  have b0 := Int.emod_nonneg x (show (W : Int) ≠ 0 by omega)
  have b1 := Int.emod_lt_of_pos x (show (0 : Int) < (W : Int) by omega)
  have b2 := Int.emod_nonneg y (show (H : Int) ≠ 0 by omega)
  have b3 := Int.emod_lt_of_pos y (show (0 : Int) < (H : Int) by omega)
  have t0 : 0 ≤ (W : Int) * (y % (H : Int)) := Int.mul_nonneg (by omega) b2
  have t1 : (W : Int) * (y % (H : Int)) ≤ 16 * 16 := Int.mul_le_mul i2 (by omega) b2 (by omega)
  have w1 : IntKind.i64.wrap (x + 4 * (W : Int)) = x + 4 * (W : Int) := IntWalk.i64_in _ ⟨by omega, by omega⟩
  have w2 : IntKind.i64.wrap (y + 4 * (H : Int)) = y + 4 * (H : Int) := IntWalk.i64_in _ ⟨by omega, by omega⟩
  have w3 : IntKind.i64.wrap ((W : Int) * (y % (H : Int))) = (W : Int) * (y % (H : Int)) := IntWalk.i64_in _ ⟨by omega, by omega⟩
  have w4 : IntKind.i64.wrap (x % (W : Int) + (W : Int) * (y % (H : Int))) = x % (W : Int) + (W : Int) * (y % (H : Int)) := IntWalk.i64_in _ ⟨by omega, by omega⟩
  unfold gV
  clear h1 h2 h3 h4
  go_enter Try.func49, Try.ntmps49
  go_wp2_with fail
  go_quiet (fail)
  clear q1 q2 b0 b1 b2 b3 t0 t1 w1 w2 w3 w4
  go_wp2_with fail
  go_ret
  exact ⟨rfl, _, rfl⟩

theorem xindex (W H : Nat) (h : Sd W H) (x y : Int) (hx0 : -16 ≤ x) (hx1 : x ≤ 100) (hy0 : -16 ≤ y) (hy1 : y ≤ 100) (w : World) : Calls Try.prog 49 #[gV W H, .int .i64 x, .int .i64 y] w fun e w' => e = .returned (.int .i64 (ix W H x y)) ∧ Below w.heap.size w w' :=
  (xindex_w W H h x y hx0 hx1 hy0 hy1 w).mono fun _ _ ⟨he, _, hw⟩ => ⟨he, hw ▸ Below.drewN_of ((Below.refl w.heap.size w).alloc (Nat.le_refl _) _) _⟩

theorem xgb_drawn {w w1 : World} {r : Option Nat} (h : w.grownBy w1 r) (m : Nat) : w.grownBy (w1.drewN m) r := zgb_below h (Below.drewN w.heap.size w1 m) (Nat.le_refl _)
theorem xgb_draw1 {w w1 : World} {r : Option Nat} (h : w.grownBy w1 r) : w.grownBy w1.drew r := xgb_drawn h 1
theorem xgb_row (w : World) (g o : Nat) (u : Value) : w.grownBy (w.setCell ⟨g, o, none⟩ u) (some g) :=
  ⟨rfl, rfl, rfl, by simp [World.setCell], fun i hi hne => Below.heap_setCell w ⟨g, o, none⟩ u i (fun e => hne (by rw [e]))⟩
theorem xgb_store {w w1 : World} {g : Nat} (h : w.grownBy w1 (some g)) (o : Nat) (u : Value) : w.grownBy (w1.setCell ⟨g, o, none⟩ u) (some g) := zgb_trans h (xgb_row w1 g o u)

def nbV (W H : Nat) (x y : Int) : Value := .agg #[.int .i64 (ix W H (x - 1) y), .int .i64 (ix W H (x + 1) y), .int .i64 (ix W H x (y - 1)), .int .i64 (ix W H x (y + 1))]
set_option maxHeartbeats 4000000 in
set_option maxRecDepth 20000 in
theorem neighbours_ok (W H : Nat) (h : Sd W H) (x y : Nat) (hx : x < 64) (hy : y < 64) (w : World) : Calls Try.prog 63 #[gV W H, .int .i64 x, .int .i64 y] w fun e w' => e = .returned (nbV W H x y) ∧ Below w.heap.size w w' := by
  have IX := fun u v hx0 hx1 hy0 hy1 w => xindex_w W H h u v hx0 hx1 hy0 hy1 w
  have ix1 := keep (IX ((x : Int) - 1) y (by omega) (by omega) (by omega) (by omega))
  have ix2 := keep (IX ((x : Int) + 1) y (by omega) (by omega) (by omega) (by omega))
  have ix3 := keep (IX x ((y : Int) - 1) (by omega) (by omega) (by omega) (by omega))
  have ix4 := keep (IX x ((y : Int) + 1) (by omega) (by omega) (by omega) (by omega))
  have v1 : IntKind.i64.wrap ((x : Int) - 1) = (x : Int) - 1 := IntWalk.i64_in _ ⟨by omega, by omega⟩
  have v2 : IntKind.i64.wrap ((x : Int) + 1) = (x : Int) + 1 := IntWalk.i64_in _ ⟨by omega, by omega⟩
  have v3 : IntKind.i64.wrap ((y : Int) - 1) = (y : Int) - 1 := IntWalk.i64_in _ ⟨by omega, by omega⟩
  have v4 : IntKind.i64.wrap ((y : Int) + 1) = (y : Int) + 1 := IntWalk.i64_in _ ⟨by omega, by omega⟩
  have G0 := (Has.made w 36 #[.int .i64 W, .int .i64 H]).beside (.cells #[.int .i64 0, .int .i64 0, .int .i64 0, .int .i64 0] 90)
  have A0 := Has.made (w.alloc (.cells #[.int .i64 W, .int .i64 H] 36)) 90 #[.int .i64 0, .int .i64 0, .int .i64 0, .int .i64 0]
  simp only [World.size_alloc] at A0
  have G0 := keep G0
  have A0 := keep A0
  have N0 := keep (((Below.refl w.heap.size w).alloc (Nat.le_refl _) (.cells #[.int .i64 W, .int .i64 H] 36)).alloc (by simp) (.cells #[.int .i64 0, .int .i64 0, .int .i64 0, .int .i64 0] 90))
  unfold nbV
  generalize (ix W H ((x : Int) - 1) y : Int) = i1 at *
  generalize (ix W H ((x : Int) + 1) y : Int) = i2 at *
  generalize (ix W H x ((y : Int) - 1) : Int) = i3 at *
  generalize (ix W H x ((y : Int) + 1) : Int) = i4 at *
  clear IX h
  unfold gV at *
  go_enter Try.func63, Try.ntmps63
  go_wp2_with fail
  generalize (w.alloc (.cells #[.int .i64 W, .int .i64 H] 36)).alloc (.cells #[.int .i64 0, .int .i64 0, .int .i64 0, .int .i64 0] 90) = W0 at *
  have SOF : Kept (∀ wx, W0.grownBy wx (some (w.heap.size + 1)) → wx.cell? ⟨w.heap.size, 0, none⟩ = some (.int .i64 W) ∧ wx.cell? ⟨w.heap.size, 1, none⟩ = some (.int .i64 H) ∧ W0.grownBy wx (some (w.heap.size + 1))) := keep (fun wx hB => ⟨(zhas_byG G0.out hB (by intro e; injection e with e; omega)).cells 0, (zhas_byG G0.out hB (by intro e; injection e with e; omega)).cells 1, hB⟩)
  have AX := (((A0.out.beside (.cells #[.int .i64 W, .int .i64 H] 36)).beside (.cells #[.int .i64 W, .int .i64 H] 36)).beside (.cells #[.int .i64 W, .int .i64 H] 36)).beside (.cells #[.int .i64 W, .int .i64 H] 36)
  have b0 := AX.cells 0
  have b1 := AX.cells 1
  have b2 := AX.cells 2
  have b3 := AX.cells 3
  have f0 := AX.free 0
  have f1 := AX.free 1
  have f2 := AX.free 2
  have f3 := AX.free 3
  have la := AX.in_heap
  have AX := keep AX
  go_cut [27] (fun s27 wx => Has wx (w.heap.size + 1) 90 #[.int .i64 i1, .int .i64 i2, .int .i64 i3, .int .i64 i4] ∧ W0.grownBy wx (some (w.heap.size + 1)))
  case first =>
    go_region_held (fun wx => wx.cell? ⟨w.heap.size, 0, none⟩ = some (.int .i64 W) ∧ wx.cell? ⟨w.heap.size, 1, none⟩ = some (.int .i64 H) ∧ W0.grownBy wx (some (w.heap.size + 1)))
      ((refine SOF.out _ ?_; repeat' (first | (with_reducible assumption) | (with_reducible exact World.grownBy.refl _ _) | (with_reducible refine xgb_store ?_ _ _) | (with_reducible refine xgb_drawn ?_ _) | (with_reducible refine xgb_draw1 ?_) | (with_reducible refine zgb_alloc ?_ _))))
      (first
        | ((with_reducible refine (ix1.out _).mono ?_); rintro e w3 ⟨rfl, m3, rfl⟩)
        | ((with_reducible refine (ix2.out _).mono ?_); rintro e w4 ⟨rfl, m4, rfl⟩)
        | ((with_reducible refine (ix3.out _).mono ?_); rintro e w5 ⟨rfl, m5, rfl⟩)
        | ((with_reducible refine (ix4.out _).mono ?_); rintro e w6 ⟨rfl, m6, rfl⟩))
    all_goals
      go_wp2_with fail
      go_meet
      refine ⟨((((AX.out.written 0 _).written 1 _).written 2 _).written 3 _).draws _, ?_⟩
      repeat' (first | (with_reducible exact World.grownBy.refl _ _) | (with_reducible refine xgb_store ?_ _ _) | (with_reducible refine xgb_drawn ?_ _) | (with_reducible refine xgb_draw1 ?_) | (with_reducible refine zgb_alloc ?_ _))
  case rest =>
    obtain ⟨hh, hg⟩ := hcut
    have BB := N0.out.grown hg N0.out.size (fun g e => by injection e with e; omega)
    have z4 := hh.cells
    clear b0 b1 b2 b3 f0 f1 f2 f3 la AX SOF
    go_wp2_with fail
    exact bodyPost_ret (v := .agg #[.int .i64 i1, .int .i64 i2, .int .i64 i3, .int .i64 i4]) (by simp [results, Try.results63, go_sem, z4]) rfl ⟨rfl, BB⟩
end Go.Proofs.Ytmlocjcfcmifdaa
