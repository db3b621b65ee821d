/- Contracts: the exported functions on places; a drawn place; equal numbers. -/
import Derived.Test.YtmnpijhnfdiomaaGh
import Derived.Test.YtmnpijhnfdiomaaGg
import Derived.Outline
namespace Go.Proofs.Ytmnpijhnfdiomaa
open Go.RowKit Go.Sort Ieee

def cornersA (W H : Nat) (x y : Int) : Array Value := #[.int .i64 (idx W H x y), .int .i64 (idx W H (x + 1) y), .int .i64 (idx W H x (y + 1)), .int .i64 (idx W H (x + 1) (y + 1))]
def sharesA (f h : Int) : Array Value := #[.float .f32 (wd single 6 ((8 - f) * (8 - h))), .float .f32 (wd single 6 (f * (8 - h))), .float .f32 (wd single 6 ((8 - f) * h)), .float .f32 (wd single 6 (f * h))]

set_option maxHeartbeats 1000000 in
theorem WrapPlace_ok (W H : Nat) (h : Sides W H) (x y : Int) (hp : PlaceOk x y) (w : World) : Calls Try.prog 12 #[gridV W H, placeV x y] w fun e w' => e = .returned (.tuple #[placeV (md x W) (md y H), .bool true]) ∧ Below w.heap.size w w' := by
  have A := keep (fun w => isPlace_ok W H h _ _ hp.fin w)
  have L := keep (fun w => wrapPlace_ok W H h x y hp w)
  have P := keep (Has.made w 25 #[.int .i64 W, .int .i64 H])
  clear hp h
  unfold gridV placeV at *
  go_enter Try.func12, Try.ntmps12
  go_wp2_with fail
  refine (A.out _).mono ?_
  rintro e w1 ⟨rfl, hb⟩
  have hB := ((Below.refl w.heap.size w).alloc (Nat.le_refl _) (.cells #[.int .i64 W, .int .i64 H] 25)).trans (hb.mono (by simp))
  have p1 := P.out.after hb
  have c1 := p1.cells
  clear hb
  go_wp2_with fail
  refine (L.out _).mono ?_
  rintro e w2 ⟨rfl, hb⟩
  have hB2 := hB.trans (hb.mono hB.size)
  clear hb c1
  go_wp2_with fail
  go_ret2
  exact ⟨rfl, hB2⟩

set_option maxHeartbeats 1000000 in
theorem CellOf_ok (W H : Nat) (h : Sides W H) (x y : Int) (hp : PlaceOk x y) (w : World) : Calls Try.prog 13 #[gridV W H, placeV x y] w fun e w' => e = .returned (.tuple #[.int .i64 (idx W H (md x W / 8) (md y H / 8)), .bool true]) ∧ Below w.heap.size w w' := by
  have A := keep (fun w => isPlace_ok W H h _ _ hp.fin w)
  have C := keep (fun w d os => Calls.regrown_of (cornerOf_ok W H h x y hp (grow (redrawn w d) os)))
  obtain ⟨⟨h1, h2⟩, h3, h4⟩ := id h
  obtain ⟨m0, m1⟩ := md_bounds x W h1
  obtain ⟨n0, n1⟩ := md_bounds y H h3
  have I := keep (fun w d os => Calls.regrown_of (index_ok W H h (md x W / 8) (md y H / 8) (by omega) (by omega) (by omega) (by omega) (grow (redrawn w d) os)))
  have P := keep (Has.made w 25 #[.int .i64 W, .int .i64 H])
  clear hp h h1 h2 h3 h4 m0 m1 n0 n1
  unfold gridV placeV at *
  go_enter Try.func13, Try.ntmps13
  go_wp2_with fail
  refine (A.out _).mono ?_
  rintro e w1 ⟨rfl, hb⟩
  have hB := ((Below.refl w.heap.size w).alloc (Nat.le_refl _) (.cells #[.int .i64 W, .int .i64 H] 25)).trans (hb.mono (by simp))
  have p1 := P.out.after hb
  have k0 := cell_regrown (p1.cells 0)
  have k1 := cell_regrown (p1.cells 1)
  clear hb
  go_wp2_with fail
  refine wp_region_quiet_below (by as_aux_lemma => kernel_rfl) (by as_aux_lemma => kernel_rfl) ?_
  repeat (any_goals (go_big_quiet_step (first | (with_reducible exact C.out _ _ _) | (with_reducible exact I.out _ _ _))))
  refine wpQuiet_nil ?_
  intro w2 hw2
  obtain ⟨⟨d2, os2⟩, rfl⟩ := hw2
  have hb2 := below_regrown w1 d2 os2
  generalize grow (redrawn w1 d2) os2 = w2 at *
  clear k0 k1
  go_wp2_with fail
  go_ret2
  exact ⟨rfl, hB.trans (hb2.mono hB.size)⟩

set_option maxHeartbeats 1000000 in
theorem SharesAt_ok (W H : Nat) (h : Sides W H) (x y : Int) (hp : PlaceOk x y) (w : World) : Calls Try.prog 11 #[gridV W H, placeV x y] w fun e w' => ∃ g1 g2 : Nat, e = .returned (.tuple #[.slice (some ⟨g1, 0, none⟩) 4 4, .slice (some ⟨g2, 0, none⟩) 4 4, .bool true]) ∧ Has w' g1 81 (cornersA W H (md x W / 8) (md y H / 8)) ∧ Has w' g2 82 (sharesA (frac x W) (frac y H)) ∧ Below w.heap.size w w' := by
  have A := keep (fun w => isPlace_ok W H h _ _ hp.fin w)
  have L := keep (fun w => shares_ok W H h x y hp w)
  have P := keep (Has.made w 25 #[.int .i64 W, .int .i64 H])
  clear hp h
  unfold gridV placeV cornersV sharesV at *
  go_enter Try.func11, Try.ntmps11
  go_wp2_with fail
  refine (A.out _).mono ?_
  rintro e w1 ⟨rfl, hb⟩
  have hB := ((Below.refl w.heap.size w).alloc (Nat.le_refl _) (.cells #[.int .i64 W, .int .i64 H] 25)).trans (hb.mono (by simp))
  have p1 := P.out.after hb
  have c1 := p1.cells
  clear hb
  go_wp2_with fail
  refine (L.out _).mono ?_
  rintro e w2 ⟨rfl, hb⟩
  have hB2 := hB.trans (hb.mono hB.size)
  have HB2 := keep hB2
  clear hb c1
  go_wp2_with fail
  go_quiet (fail)
  go_wp2_with fail
  have q4 := ((Has.made w2 81 (cornersA W H (md x W / 8) (md y H / 8))).beside (.cells (sharesA (frac x W) (frac y H)) 82)).draws nq
  have q5 := (Has.made (w2.alloc (.cells (cornersA W H (md x W / 8) (md y H / 8)) 81)) 82 (sharesA (frac x W) (frac y H))).draws nq
  have bb := Below.drewN_of ((HB2.out.alloc HB2.out.size (.cells (cornersA W H (md x W / 8) (md y H / 8)) 81)).alloc (by have := HB2.out.size; simp; omega) (.cells (sharesA (frac x W) (frac y H)) 82)) nq
  rw [World.size_alloc] at q5
  go_ret3
  exact ⟨_, _, rfl, q4, q5, bb⟩
end Go.Proofs.Ytmnpijhnfdiomaa
