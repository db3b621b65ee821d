/- Contracts of the grid's own functions at any place, by the chains of operations on words: wrapped numbers and places, corners, shares, what fields have there, ways. No condition but that the chains run. -/
import Derived.Test.YtdonmboidpppmaaVb
import Derived.Test.YtdonmboidpppmaaGh
import Derived.Test.YtdonmboidpppmaaMa
import Derived.Test.YtdonmboidpppmaaMc
import Derived.Test.YtdonmboidpppmaaBc
namespace Go.Proofs.Ytdonmboidpppmaa
open Go.RowKit Go.Sort Ieee
set_option linter.unusedSimpArgs false
set_option linter.unusedVariables false

set_option maxHeartbeats 4000000 in
set_option maxRecDepth 20000 in
theorem bwrap {x side r : Nat} (h : WrapW x side r) (w : World) :
    Calls Try.prog 86 #[.float .f32 x, .int .i64 side] w fun e w' => e = .returned (.float .f32 r) ∧ w' = w := by
  obtain ⟨D, q, p, d, n, e1, e2, ⟨s, m, i, e3⟩, e4, e5, e6, hc⟩ := h
  have f1 := zconv32 _ _ e1
  have f2 := zrun e2
  have f4 := zrun e4
  have f5 := zrun e5
  have f6 := zconv64 _ _ e6
  have FL := keep (Floor_any q s m i e3)
  clear e1 e2 e3 e4 e5 e6
  rcases hc with ⟨o1, o2, rfl⟩ | ⟨o1, o2, rfl⟩ | ⟨o1, o2, rfl⟩ | ⟨o1, rfl⟩ | ⟨o1, rfl⟩
  all_goals
    go_enter Try.func86, Try.ntmps86
    go_wp2_with (go_at_call 88; refine (FL.out _).mono ?_; rintro e w' ⟨rfl, rfl⟩)
    go_ret
    exact ⟨rfl, rfl⟩

set_option maxHeartbeats 1000000 in
theorem bwrapPlace {W H x y rx ry : Nat} (hx : WrapW x W rx) (hy : WrapW y H ry) (w : World) : Calls Try.prog 77 #[gridV W H, .complex .f32 x y] w fun e w' => e = .returned (.complex .f32 rx ry) ∧ Below w.heap.size w w' := by
  have A := keep (fun w d os => Calls.regrown_of (toB (bwrap hx (grow (redrawn w d) os))))
  have B := keep (fun w d os => Calls.regrown_of (toB (bwrap hy (grow (redrawn w d) os))))
  have c := (Has.made w 25 #[.int .i64 W, .int .i64 H]).cells
  have c0 := cell_regrown (c 0)
  have c1 := cell_regrown (c 1)
  clear c hx hy
  unfold gridV
  go_enter Try.func77, Try.ntmps77
  go_wp2_with fail
  refine wp_region_quiet_below (by as_aux_lemma => kernel_rfl) (by as_aux_lemma => kernel_rfl) ?_
  repeat (any_goals (go_big_quiet_step (first | (with_reducible exact A.out _ _ _) | (with_reducible exact B.out _ _ _))))
  refine wpQuiet_nil ?_
  intro w2 hw2
  obtain ⟨⟨d2, os2⟩, rfl⟩ := hw2
  have hb2 := below_regrown (w.alloc (.cells #[.int .i64 W, .int .i64 H] 25)) d2 os2
  generalize grow (redrawn (w.alloc (.cells #[.int .i64 W, .int .i64 H] 25)) d2) os2 = w2 at *
  have hB := ((Below.refl w.heap.size w).alloc (Nat.le_refl _) (.cells #[.int .i64 W, .int .i64 H] 25)).trans (hb2.mono (by simp))
  clear c0 c1 hb2
  go_wp2_with fail
  go_ret
  exact ⟨rfl, hB⟩


theorem brun_whole {r : Nat} {c : Int} (h : floatToIntVal .f32 r .i64 = some c) (w : World) : (convert 32 2 (.float .f32 r)).run Try.prog w = .ok (.int .i64 c) w :=
  run_convert_float_int w 32 2 .f32 .i64 _ c (by rw [Try.underlying32]; rfl) Try.underlying2 h

set_option maxHeartbeats 1000000 in
theorem bcornerOf {W H x y rx ry cx cy : Nat} (hx : WrapW x W rx) (hy : WrapW y H ry) (tx : floatToIntVal .f32 rx .i64 = some (cx : Int)) (ty : floatToIntVal .f32 ry .i64 = some (cy : Int)) (w : World) : Calls Try.prog 80 #[gridV W H, .complex .f32 x y] w fun e w' => e = .returned (.tuple #[.int .i64 cx, .int .i64 cy]) ∧ Below w.heap.size w w' := by
  have WP := keep (fun w => bwrapPlace hx hy w)
  have f1 := brun_whole tx
  have f2 := brun_whole ty
  clear hx hy tx ty
  unfold gridV at *
  go_enter Try.func80, Try.ntmps80
  go_wp2_with fail
  refine (WP.out _).mono ?_
  rintro e w1 ⟨rfl, hb⟩
  have hB := ((Below.refl w.heap.size w).alloc (Nat.le_refl _) (.cells #[.int .i64 W, .int .i64 H] 25)).trans (hb.mono (by simp))
  clear hb
  go_wp2_with fail
  go_ret2
  exact ⟨rfl, hB⟩

set_option maxHeartbeats 4000000 in
set_option maxRecDepth 20000 in
theorem bshares {W H x y rx ry cx cy s0 s1 s2 s3 : Nat} (h : Sides W H) (A : AtW W H x y rx ry cx cy) (S : ShareW rx ry cx cy s0 s1 s2 s3) (w : World) : Calls Try.prog 67 #[gridV W H, .complex .f32 x y] w fun e w' => e = .returned (.tuple #[cornersV W H cx cy, .agg #[.float .f32 s0, .float .f32 s1, .float .f32 s2, .float .f32 s3]]) ∧ Below w.heap.size w w' := by
  have WP := keep (fun w => bwrapPlace A.wx A.wy w)
  have CO := keep (fun w => bcornerOf A.wx A.wy A.tx A.ty w)
  have IX := fun u v hx0 hx1 hy0 hy1 w => index_w W H h u v hx0 hx1 hy0 hy1 w
  obtain ⟨⟨h1, h2⟩, h3, h4⟩ := h
  have b2 : cx < 7 := by have := A.lx; omega
  have b4 : cy < 7 := by have := A.ly; omega
  have ix1 := keep (IX (cx : Int) (cy : Int) (by omega) (by omega) (by omega) (by omega))
  have ix2 := keep (IX ((cx : Int) + 1) (cy : Int) (by omega) (by omega) (by omega) (by omega))
  have ix3 := keep (IX (cx : Int) ((cy : Int) + 1) (by omega) (by omega) (by omega) (by omega))
  have ix4 := keep (IX ((cx : Int) + 1) ((cy : Int) + 1) (by omega) (by omega) (by omega) (by omega))
  obtain ⟨f, hh, g, k, e1, e2, e3, e4, e5, e6, e7, e8⟩ := S
  have f1 := zrun e1
  have f2 := zrun e2
  have F3 := keep (zrun e3)
  have F4 := keep (zrun e4)
  have F5 := keep (zrun e5)
  have F6 := keep (zrun e6)
  have F7 := keep (zrun e7)
  have F8 := keep (zrun e8)
  clear e1 e2 e3 e4 e5 e6 e7 e8
  have G0 := keep (((Has.made w 25 #[.int .i64 W, .int .i64 H]).beside (.cells #[.int .i64 0, .int .i64 0, .int .i64 0, .int .i64 0] 95)).beside (.cells #[.float .f32 0, .float .f32 0, .float .f32 0, .float .f32 0] 96))
  have A0 := (Has.made (w.alloc (.cells #[.int .i64 W, .int .i64 H] 25)) 95 #[.int .i64 0, .int .i64 0, .int .i64 0, .int .i64 0]).beside (.cells #[.float .f32 0, .float .f32 0, .float .f32 0, .float .f32 0] 96)
  have B0 := Has.made ((w.alloc (.cells #[.int .i64 W, .int .i64 H] 25)).alloc (.cells #[.int .i64 0, .int .i64 0, .int .i64 0, .int .i64 0] 95)) 96 #[.float .f32 0, .float .f32 0, .float .f32 0, .float .f32 0]
  simp only [World.size_alloc] at A0 B0
  have A0 := keep A0
  have B0 := keep B0
  have N0 := keep ((((Below.refl w.heap.size w).alloc (Nat.le_refl _) (.cells #[.int .i64 W, .int .i64 H] 25)).alloc (by simp) (.cells #[.int .i64 0, .int .i64 0, .int .i64 0, .int .i64 0] 95)).alloc (by simp; omega) (.cells #[.float .f32 0, .float .f32 0, .float .f32 0, .float .f32 0] 96))
  clear IX A h1 h2 h3 h4
  unfold gridV at *
  go_enter Try.func67, Try.ntmps67
  go_wp2_with fail
  refine (WP.out _).mono ?_
  rintro e w1 ⟨rfl, hb⟩
  have G1 := G0.out.after hb
  have A1 := keep (A0.out.after hb)
  have B1 := keep (B0.out.after hb)
  have N1 := keep (N0.out.trans (hb.mono (by simp; omega)))
  have c1 := G1.cells
  have G1 := keep G1
  clear hb
  go_wp2_with fail
  refine (CO.out _).mono ?_
  rintro e w2 ⟨rfl, hb⟩
  have G2 := G1.out.after hb
  have A2 := keep (A1.out.after hb)
  have B2 := keep (B1.out.after hb)
  have N2 := keep (N1.out.trans (hb.mono N1.out.size))
  have c2 := G2.cells
  have G2 := keep G2
  clear hb c1
  go_wp2_with fail
  have lg := G2.out.in_heap
  have k0 : w2.cell? ⟨w.heap.size, 0, none⟩ = some (.int .i64 W) := c2 0
  have k1 : w2.cell? ⟨w.heap.size, 1, none⟩ = some (.int .i64 H) := c2 1
  have f1' := keep f1
  have f2' := keep f2
  have v1 : IntKind.i64.wrap ((cx : Int) + 1) = (cx : Int) + 1 := IntWalk.i64_in _ ⟨by omega, by omega⟩
  have v2 : IntKind.i64.wrap ((cy : Int) + 1) = (cy : Int) + 1 := IntWalk.i64_in _ ⟨by omega, by omega⟩
  clear c2 f1 f2
  go_cut [11] (fun s11 wx => ∃ b : Nat, s11 = .pointer (some ⟨b, 0, none⟩) ∧ Has wx b 95 #[.int .i64 (idx W H (cx : Int) (cy : Int)), .int .i64 (idx W H ((cx : Int) + 1) (cy : Int)), .int .i64 (idx W H (cx : Int) ((cy : Int) + 1)), .int .i64 (idx W H ((cx : Int) + 1) ((cy : Int) + 1))] ∧ Below w2.heap.size w2 wx)
  case first =>
    go_region_held (fun wx => wx.cell? ⟨w.heap.size, 0, none⟩ = some (.int .i64 W) ∧ wx.cell? ⟨w.heap.size, 1, none⟩ = some (.int .i64 H) ∧ Below w2.heap.size w2 wx)
      ((refine (fun hB : Below w2.heap.size w2 _ => ⟨(hB.cell (p := ⟨w.heap.size, 0, none⟩) lg).trans k0, (hB.cell (p := ⟨w.heap.size, 1, none⟩) lg).trans k1, hB⟩) ?_; repeat' (first | (with_reducible assumption) | (with_reducible exact Below.refl _ _) | (with_reducible refine Below.drewN_of ?_ _) | (with_reducible refine Below.drew ?_) | (with_reducible refine Below.alloc ?_ ?_ _) | (with_reducible refine Below.setCell ?_ ?_ _) | (simp; done) | (simp; omega))))
      (first
        | ((with_reducible refine (ix1.out _).mono ?_); rintro e w3 ⟨rfl, m3, rfl⟩)
        | ((with_reducible refine (ix2.out _).mono ?_); rintro e w4 ⟨rfl, m4, rfl⟩)
        | ((with_reducible refine (ix3.out _).mono ?_); rintro e w5 ⟨rfl, m5, rfl⟩)
        | ((with_reducible refine (ix4.out _).mono ?_); rintro e w6 ⟨rfl, m6, rfl⟩))
    all_goals
      clear G0 A0 B0 N0 G1 A1 B1 N1 A2 B2 N2 WP CO ix1 ix2 ix3 ix4
      go_wp2_with fail
      go_meet
      refine ⟨_, rfl, ?_, ?_⟩
      · repeat' (first | (with_reducible refine has_at _ _ _ _ (by simp)) | (with_reducible refine Has.draws ?_ _) | (with_reducible refine Has.beside ?_ _))
      · repeat' (first | (with_reducible assumption) | (with_reducible exact Below.refl _ _) | (with_reducible refine Below.drewN_of ?_ _) | (with_reducible refine Below.drew ?_) | (with_reducible refine Below.alloc ?_ ?_ _) | (with_reducible refine Below.setCell ?_ ?_ _) | (simp; done) | (simp; omega))
  case rest =>
    obtain ⟨b, rfl, hb3, hbw⟩ := hcut
    have a3 := A2.out.after hbw
    have d3 := B2.out.after hbw
    have N3 := keep (N2.out.trans (hbw.mono N2.out.size))
    have ca := a3.cells
    have fa := a3.free
    have cb := d3.cells
    have fb := d3.free
    have cn := hb3.cells
    have f3 := F3.out
    have f4 := F4.out
    have f5 := F5.out
    have f6 := F6.out
    have f7 := F7.out
    have f8 := F8.out
    clear v1 v2 k0 k1 hbw G0 A0 B0 N0 G1 A1 B1 N1 A2 B2 N2 WP CO ix1 ix2 ix3 ix4 F3 F4 F5 F6 F7 F8 b2 b4
    go_wp2_with fail
    have q4 := ((((((((a3.written 0 (.int .i64 (idx W H (cx : Int) (cy : Int)))).written 1 (.int .i64 (idx W H ((cx : Int) + 1) (cy : Int)))).written 2 (.int .i64 (idx W H (cx : Int) ((cy : Int) + 1)))).written 3 (.int .i64 (idx W H ((cx : Int) + 1) ((cy : Int) + 1)))).elsewhere (p := ⟨w.heap.size + 1 + 1, 0, none⟩) (by show w.heap.size + 1 ≠ w.heap.size + 1 + 1; omega) (.float .f32 s0)).elsewhere (p := ⟨w.heap.size + 1 + 1, 1, none⟩) (by show w.heap.size + 1 ≠ w.heap.size + 1 + 1; omega) (.float .f32 s1)).elsewhere (p := ⟨w.heap.size + 1 + 1, 2, none⟩) (by show w.heap.size + 1 ≠ w.heap.size + 1 + 1; omega) (.float .f32 s2)).elsewhere (p := ⟨w.heap.size + 1 + 1, 3, none⟩) (by show w.heap.size + 1 ≠ w.heap.size + 1 + 1; omega) (.float .f32 s3))
    have q5 := ((((((((d3.elsewhere (p := ⟨w.heap.size + 1, 0, none⟩) (by show w.heap.size + 1 + 1 ≠ w.heap.size + 1; omega) (.int .i64 (idx W H (cx : Int) (cy : Int)))).elsewhere (p := ⟨w.heap.size + 1, 1, none⟩) (by show w.heap.size + 1 + 1 ≠ w.heap.size + 1; omega) (.int .i64 (idx W H ((cx : Int) + 1) (cy : Int)))).elsewhere (p := ⟨w.heap.size + 1, 2, none⟩) (by show w.heap.size + 1 + 1 ≠ w.heap.size + 1; omega) (.int .i64 (idx W H (cx : Int) ((cy : Int) + 1)))).elsewhere (p := ⟨w.heap.size + 1, 3, none⟩) (by show w.heap.size + 1 + 1 ≠ w.heap.size + 1; omega) (.int .i64 (idx W H ((cx : Int) + 1) ((cy : Int) + 1)))).written 0 (.float .f32 s0)).written 1 (.float .f32 s1)).written 2 (.float .f32 s2)).written 3 (.float .f32 s3))
    have bb := ((((((((N3.out.setCell (p := ⟨w.heap.size + 1, 0, none⟩) (by show w.heap.size ≤ w.heap.size + 1; omega) (.int .i64 (idx W H (cx : Int) (cy : Int)))).setCell (p := ⟨w.heap.size + 1, 1, none⟩) (by show w.heap.size ≤ w.heap.size + 1; omega) (.int .i64 (idx W H ((cx : Int) + 1) (cy : Int)))).setCell (p := ⟨w.heap.size + 1, 2, none⟩) (by show w.heap.size ≤ w.heap.size + 1; omega) (.int .i64 (idx W H (cx : Int) ((cy : Int) + 1)))).setCell (p := ⟨w.heap.size + 1, 3, none⟩) (by show w.heap.size ≤ w.heap.size + 1; omega) (.int .i64 (idx W H ((cx : Int) + 1) ((cy : Int) + 1)))).setCell (p := ⟨w.heap.size + 1 + 1, 0, none⟩) (by show w.heap.size ≤ w.heap.size + 1 + 1; omega) (.float .f32 s0)).setCell (p := ⟨w.heap.size + 1 + 1, 1, none⟩) (by show w.heap.size ≤ w.heap.size + 1 + 1; omega) (.float .f32 s1)).setCell (p := ⟨w.heap.size + 1 + 1, 2, none⟩) (by show w.heap.size ≤ w.heap.size + 1 + 1; omega) (.float .f32 s2)).setCell (p := ⟨w.heap.size + 1 + 1, 3, none⟩) (by show w.heap.size ≤ w.heap.size + 1 + 1; omega) (.float .f32 s3))
    have z4 := q4.cells
    have z5 := q5.cells
    exact bodyPost_ret (v := .tuple #[cornersV W H cx cy, .agg #[.float .f32 s0, .float .f32 s1, .float .f32 s2, .float .f32 s3]]) (by simp [results, Try.results67, go_sem, z4, z5, cornersV]) rfl ⟨rfl, bb⟩

/-- The cells of a field in a block, as words. -/
def FldW (w : World) (g : Nat) (F : List Nat) : Prop := g < w.heap.size ∧ ∀ i (h : i < F.length), w.cell? ⟨g, i, none⟩ = some (.float .f32 F[i])
theorem FldW.after {w w' : World} {g : Nat} {F : List Nat} (h : FldW w g F) (hb : Below w.heap.size w w') : FldW w' g F :=
  ⟨Nat.lt_of_lt_of_le h.1 hb.size, fun i hi => (hb.cell (p := ⟨g, i, none⟩) h.1).trans (h.2 i hi)⟩
theorem FldW.beside {w : World} {g : Nat} {F : List Nat} (h : FldW w g F) (o : Obj) : FldW (w.alloc o) g F := h.after ((Below.refl w.heap.size w).alloc (Nat.le_refl _) o)
theorem fAt_cell {w : World} {g W H : Nat} {F : List Nat} (h : FldW w g F) (hS : Sides W H) (hl : F.length = W * H) (i j : Int) : ∃ c : Nat, idx W H i j = c ∧ w.cell? ⟨g, c, none⟩ = some (.float .f32 (fAt W H F i j)) ∧ c < W * H := by
  obtain ⟨c, e, l⟩ := idx_nat W H hS i j
  refine ⟨c, e, ?_, l⟩
  have := h.2 c (by omega)
  rw [this]
  unfold fAt
  rw [e, Int.toNat_natCast, List.getD_eq_getElem?_getD, List.getElem?_eq_getElem (by omega)]
  rfl

set_option maxHeartbeats 4000000 in
set_option maxRecDepth 20000 in
theorem bgather {W H x y rx ry cx cy out : Nat} {F : List Nat} (h : Sides W H) (A : AtW W H x y rx ry cx cy) (hG : GatW W H rx ry cx cy F out) (g cp : Nat) (hl : F.length = W * H) (w : World) (hh : FldW w g F) :
    Calls Try.prog 43 #[gridV W H, .slice (some ⟨g, 0, none⟩) (W * H) cp, .complex .f32 x y] w fun e w' => e = .returned (.float .f32 out) ∧ Below w.heap.size w w' := by
  obtain ⟨s0, s1, s2, s3, p0, p1, p2, p3, t0, t1, t2, hs, m0, m1, m2, m3, a0, a1, a2, a3⟩ := hG
  have SH := keep (fun w => bshares h A hs w)
  unfold cornersV at SH
  obtain ⟨c0, e0, l0⟩ := idx_nat W H h (cx : Int) (cy : Int)
  obtain ⟨c1, e1, l1⟩ := idx_nat W H h ((cx : Int) + 1) (cy : Int)
  obtain ⟨c2, e2, l2⟩ := idx_nat W H h (cx : Int) ((cy : Int) + 1)
  obtain ⟨c3, e3, l3⟩ := idx_nat W H h ((cx : Int) + 1) ((cy : Int) + 1)
  unfold fAt at m0 m1 m2 m3
  rw [e0, Int.toNat_natCast] at m0
  rw [e1, Int.toNat_natCast] at m1
  rw [e2, Int.toNat_natCast] at m2
  rw [e3, Int.toNat_natCast] at m3
  simp only [e0, e1, e2, e3] at SH
  rw [← hl] at l0 l1 l2 l3 ⊢
  have H0 := keep (hh.beside (.cells #[.int .i64 W, .int .i64 H] 25))
  have B0 := keep ((Below.refl w.heap.size w).alloc (Nat.le_refl _) (.cells #[.int .i64 W, .int .i64 H] 25))
  have GD := keep (fun (w : World) (hw : FldW w g F) (c : Nat) (l : c < F.length) => (show w.cell? ⟨g, c, none⟩ = some (.float .f32 (F.getD c 0)) by rw [hw.2 c l, List.getD_eq_getElem?_getD, List.getElem?_eq_getElem l]; rfl))
  have M0 := keep (zrun m0)
  have M1 := keep (zrun m1)
  have M2 := keep (zrun m2)
  have M3 := keep (zrun m3)
  have A0 := keep (zrun a0)
  have A1 := keep (zrun a1)
  have A2 := keep (zrun a2)
  have A3 := keep (zrun a3)
  clear h A hs m0 m1 m2 m3 a0 a1 a2 a3 hh e0 e1 e2 e3 hl
  generalize hF0 : F.getD c0 0 = F0 at *
  generalize hF1 : F.getD c1 0 = F1 at *
  generalize hF2 : F.getD c2 0 = F2 at *
  generalize hF3 : F.getD c3 0 = F3 at *
  have EF := keep (And.intro hF0 (And.intro hF1 (And.intro hF2 hF3)))
  clear hF0 hF1 hF2 hF3
  unfold gridV at *
  go_enter Try.func43, Try.ntmps43
  go_wp2_with fail
  refine (SH.out _).mono ?_
  rintro e w1 ⟨rfl, hb⟩
  have H1 := keep (H0.out.after hb)
  have B1 := keep (B0.out.trans (hb.mono B0.out.size))
  clear hb H0 B0 SH
  go_wp2_with fail
  have P5 := keep ((Has.made (w1.alloc (.cells #[.int .i64 c0, .int .i64 c1, .int .i64 c2, .int .i64 c3] 95)) 96 #[.float .f32 s0, .float .f32 s1, .float .f32 s2, .float .f32 s3]))
  have H2 := keep ((H1.out.beside (.cells #[.int .i64 c0, .int .i64 c1, .int .i64 c2, .int .i64 c3] 95)).beside (.cells #[.float .f32 s0, .float .f32 s1, .float .f32 s2, .float .f32 s3] 96))
  have B2 := keep ((B1.out.alloc B1.out.size (.cells #[.int .i64 c0, .int .i64 c1, .int .i64 c2, .int .i64 c3] 95)).alloc (by have := B1.out.size; simp only [World.size_alloc]; omega) (.cells #[.float .f32 s0, .float .f32 s1, .float .f32 s2, .float .f32 s3] 96))
  simp only [World.size_alloc] at P5
  clear H1 B1
  generalize (w1.alloc (.cells #[.int .i64 c0, .int .i64 c1, .int .i64 c2, .int .i64 c3] 95)).alloc (.cells #[.float .f32 s0, .float .f32 s1, .float .f32 s2, .float .f32 s3] 96) = W1 at *
  go_loopw [19, 9] (fun s t wr => ∃ i m : Nat, i ≤ 4 ∧ s = .int .i64 i ∧ t = .float .f32 ([0, t0, t1, t2, out].getD i 0) ∧ wr = W1.drewN m) (fun s _ _ => 4 - (intOf s).toNat)
  case atStart => exact ⟨0, 0, by omega, rfl, rfl, rfl⟩
  case round =>
    obtain ⟨i, m, hi, rfl, rfl, rfl⟩ := hrel
    have hks : i = 0 ∨ i = 1 ∨ i = 2 ∨ i = 3 ∨ i = 4 := by omega
    rcases hks with rfl | rfl | rfl | rfl | rfl
    · have z1 := GD.out W1 H2.out c0 l0
      rw [EF.out.1] at z1
      have z3 := P5.out.cells 0
      have f1 := M0.out
      have f2 := A0.out
      have lg2 := H2.out.1
      have l52 := P5.out.in_heap
      have ix : ∀ w, (Instr.index 95 (.agg #[.int .i64 c0, .int .i64 c1, .int .i64 c2, .int .i64 c3]) (.int .i64 0)).run Try.prog w = .ok (.int .i64 c0) w := fun w => run_ix _ 0 _ (by omega) rfl w
      rw [show [0, t0, t1, t2, out].getD 0 0 = 0 from rfl]
      clear GD M0 M1 M2 M3 A0 A1 A2 A3
      go_wp2_with fail
      clear ix
      go_quiet (fail)
      go_wp2_with fail
      go_roundw
      case rel => exact ⟨1, _, by omega, rfl, rfl, rfl⟩
      case measure => simp [intOf]
    · have z1 := GD.out W1 H2.out c1 l1
      rw [EF.out.2.1] at z1
      have z3 := P5.out.cells 1
      have f1 := M1.out
      have f2 := A1.out
      have lg2 := H2.out.1
      have l52 := P5.out.in_heap
      have ix : ∀ w, (Instr.index 95 (.agg #[.int .i64 c0, .int .i64 c1, .int .i64 c2, .int .i64 c3]) (.int .i64 1)).run Try.prog w = .ok (.int .i64 c1) w := fun w => run_ix _ 1 _ (by omega) rfl w
      rw [show [0, t0, t1, t2, out].getD 1 0 = t0 from rfl]
      clear GD M0 M1 M2 M3 A0 A1 A2 A3
      go_wp2_with fail
      clear ix
      go_quiet (fail)
      go_wp2_with fail
      go_roundw
      case rel => exact ⟨2, _, by omega, rfl, rfl, rfl⟩
      case measure => simp [intOf]
    · have z1 := GD.out W1 H2.out c2 l2
      rw [EF.out.2.2.1] at z1
      have z3 := P5.out.cells 2
      have f1 := M2.out
      have f2 := A2.out
      have lg2 := H2.out.1
      have l52 := P5.out.in_heap
      have ix : ∀ w, (Instr.index 95 (.agg #[.int .i64 c0, .int .i64 c1, .int .i64 c2, .int .i64 c3]) (.int .i64 2)).run Try.prog w = .ok (.int .i64 c2) w := fun w => run_ix _ 2 _ (by omega) rfl w
      rw [show [0, t0, t1, t2, out].getD 2 0 = t1 from rfl]
      clear GD M0 M1 M2 M3 A0 A1 A2 A3
      go_wp2_with fail
      clear ix
      go_quiet (fail)
      go_wp2_with fail
      go_roundw
      case rel => exact ⟨3, _, by omega, rfl, rfl, rfl⟩
      case measure => simp [intOf]
    · have z1 := GD.out W1 H2.out c3 l3
      rw [EF.out.2.2.2] at z1
      have z3 := P5.out.cells 3
      have f1 := M3.out
      have f2 := A3.out
      have lg2 := H2.out.1
      have l52 := P5.out.in_heap
      have ix : ∀ w, (Instr.index 95 (.agg #[.int .i64 c0, .int .i64 c1, .int .i64 c2, .int .i64 c3]) (.int .i64 3)).run Try.prog w = .ok (.int .i64 c3) w := fun w => run_ix _ 3 _ (by omega) rfl w
      rw [show [0, t0, t1, t2, out].getD 3 0 = t2 from rfl]
      clear GD M0 M1 M2 M3 A0 A1 A2 A3
      go_wp2_with fail
      clear ix
      go_quiet (fail)
      go_wp2_with fail
      go_roundw
      case rel => exact ⟨4, _, by omega, rfl, rfl, rfl⟩
      case measure => simp [intOf]
    · go_wp2_with fail
      go_ret
      exact ⟨rfl, Below.drewN_of B2.out _⟩

theorem finC_of {x y : Nat} (nx : Nm single x) (ny : Nm single y) : finC x y = true := by unfold finC; rw [bfin nx, bfin ny]; rfl
set_option maxHeartbeats 4000000 in
set_option maxRecDepth 20000 in
theorem bGatherTwo {W H x y rx ry cx cy o1 o2 : Nat} {F1 F2 : List Nat} (h : Sides W H) (nx : Nm single x) (ny : Nm single y) (A : AtW W H x y rx ry cx cy) (hG1 : GatW W H rx ry cx cy F1 o1) (hG2 : GatW W H rx ry cx cy F2 o2) (g1 g2 q1 q2 : Nat) (hl1 : F1.length = W * H) (hl2 : F2.length = W * H) (w : World) (hh1 : FldW w g1 F1) (hh2 : FldW w g2 F2) :
    Calls Try.prog 11 #[gridV W H, .slice (some ⟨g1, 0, none⟩) (W * H) q1, .slice (some ⟨g2, 0, none⟩) (W * H) q2, .complex .f32 x y] w fun e w' => e = .returned (.tuple #[.complex .f32 o1 o2, .bool true]) ∧ Below w.heap.size w w' := by
  have IF := keep (fun g q w => IsField_ok W H h (some ⟨g, 0, none⟩) q w)
  have IP := keep (fun w => isPlace_ok W H h _ _ (finC_of nx ny) w)
  have GA := keep (fun w hh => bgather h A hG1 g1 q1 hl1 w hh)
  have GB := keep (fun w hh => bgather h A hG2 g2 q2 hl2 w hh)
  have P := keep (Has.made w 25 #[.int .i64 W, .int .i64 H])
  have B0 := keep ((Below.refl w.heap.size w).alloc (Nat.le_refl _) (.cells #[.int .i64 W, .int .i64 H] 25))
  have H0 := keep (hh1.beside (.cells #[.int .i64 W, .int .i64 H] 25))
  have K0 := keep (hh2.beside (.cells #[.int .i64 W, .int .i64 H] 25))
  generalize W * H = n at *
  clear A h hh1 hh2 hG1 hG2 hl1 hl2 nx ny
  unfold gridV at *
  go_enter Try.func11, Try.ntmps11
  go_wp2_with fail
  refine (IF.out _ _ _).mono ?_
  rintro e w1 ⟨rfl, hb⟩
  have p1 := P.out.after hb
  have cg := p1.cells
  have P1 := keep p1
  have H1 := keep (H0.out.after hb)
  have K1 := keep (K0.out.after hb)
  have B1 := keep (B0.out.trans (hb.mono B0.out.size))
  clear hb P H0 K0 B0 p1
  go_wp2_with fail
  refine (IF.out _ _ _).mono ?_
  rintro e w2 ⟨rfl, hb⟩
  have p2 := P1.out.after hb
  clear cg
  have cg := p2.cells
  have P2 := keep p2
  have H2 := keep (H1.out.after hb)
  have K2 := keep (K1.out.after hb)
  have B2 := keep (B1.out.trans (hb.mono B1.out.size))
  clear hb P1 H1 K1 B1 IF p2
  go_wp2_with fail
  refine (IP.out _).mono ?_
  rintro e w3 ⟨rfl, hb⟩
  have p3 := P2.out.after hb
  clear cg
  have k0 := cell_regrown (p3.cells 0)
  have k1 := cell_regrown (p3.cells 1)
  have GR1 := keep (fun d os => Calls.regrown_of (GA.out _ ((H2.out.after hb).after (below_regrown w3 d os))))
  have GR2 := keep (fun d os => Calls.regrown_of (GB.out _ ((K2.out.after hb).after (below_regrown w3 d os))))
  have B3 := keep (B2.out.trans (hb.mono B2.out.size))
  clear hb P2 H2 K2 B2 IP p3 GA GB
  go_wp2_with fail
  refine wp_region_quiet_below (by as_aux_lemma => kernel_rfl) (by as_aux_lemma => kernel_rfl) ?_
  repeat (any_goals (go_big_quiet_step (first | (with_reducible exact GR1.out _ _) | (with_reducible exact GR2.out _ _))))
  refine wpQuiet_nil ?_
  intro w8 hw8
  obtain ⟨⟨d8, os8⟩, rfl⟩ := hw8
  have hb8 := below_regrown w3 d8 os8
  generalize grow (redrawn w3 d8) os8 = w8 at *
  have B8 := keep (B3.out.trans (hb8.mono B3.out.size))
  clear k0 k1 hb8
  go_wp2_with fail
  go_ret2
  exact ⟨rfl, B8.out⟩


/-! ### Ways -/
/-- The shorter way along a side, as words. -/
def WayW (d side r : Nat) : Prop := ∃ h a b, floatBits .quo .f32 (floatOfInt .f32 (side : Int)) 1073741824 = some h ∧ floatBits .sub .f32 d (floatOfInt .f32 (side : Int)) = some a ∧ floatBits .add .f32 d (floatOfInt .f32 (side : Int)) = some b ∧
  ((FloatKind.f32.format.order d h = some .gt ∧ r = a) ∨ (FloatKind.f32.format.order d h = some .lt ∧ FloatKind.f32.format.order d (Op.negFloat .f32 h) = some .lt ∧ r = b) ∨ (FloatKind.f32.format.order d h = some .eq ∧ FloatKind.f32.format.order d (Op.negFloat .f32 h) = some .lt ∧ r = b) ∨
   (FloatKind.f32.format.order d h = some .lt ∧ FloatKind.f32.format.order d (Op.negFloat .f32 h) = some .gt ∧ r = d) ∨ (FloatKind.f32.format.order d h = some .eq ∧ FloatKind.f32.format.order d (Op.negFloat .f32 h) = some .gt ∧ r = d) ∨ (FloatKind.f32.format.order d h = some .lt ∧ FloatKind.f32.format.order d (Op.negFloat .f32 h) = some .eq ∧ r = d) ∨ (FloatKind.f32.format.order d h = some .eq ∧ FloatKind.f32.format.order d (Op.negFloat .f32 h) = some .eq ∧ r = d))
set_option maxHeartbeats 1000000 in
theorem bwayIn {d side r : Nat} (hw : WayW d side r) (w : World) : Calls Try.prog 78 #[.float .f32 d, .int .i64 side] w fun e w' => e = .returned (.float .f32 r) ∧ w' = w := by
  obtain ⟨h, a, b, e1, e2, e3, hc⟩ := hw
  have f1 := zrun e1
  have f2 := zrun e2
  have f3 := zrun e3
  have u1 := znegf h
  clear e1 e2 e3
  rcases hc with ⟨n1, rfl⟩ | ⟨n1, n2, rfl⟩ | ⟨n1, n2, rfl⟩ | ⟨n1, n2, rfl⟩ | ⟨n1, n2, rfl⟩ | ⟨n1, n2, rfl⟩ | ⟨n1, n2, rfl⟩
  all_goals
    go_enter Try.func78, Try.ntmps78
    go_wp2_with fail
    go_ret
    exact ⟨rfl, rfl⟩
/-- The way between two places, as words. -/
def BetwP (W H x1 y1 x2 y2 a b : Nat) : Prop := ∃ rx1 ry1 rx2 ry2 d e, WrapW x1 W rx1 ∧ WrapW y1 H ry1 ∧ WrapW x2 W rx2 ∧ WrapW y2 H ry2 ∧ floatBits .sub .f32 rx2 rx1 = some d ∧ floatBits .sub .f32 ry2 ry1 = some e ∧ WayW d W a ∧ WayW e H b
set_option maxHeartbeats 1000000 in
theorem bwayBetween {W H x1 y1 x2 y2 a b : Nat} (h : BetwP W H x1 y1 x2 y2 a b) (w : World) : Calls Try.prog 58 #[gridV W H, .complex .f32 x1 y1, .complex .f32 x2 y2] w fun e w' => e = .returned (.complex .f32 a b) ∧ Below w.heap.size w w' := by
  obtain ⟨rx1, ry1, rx2, ry2, dd, ee, h1, h2, h3, h4, h5, h6, h7, h8⟩ := h
  have A := keep (fun w d os => Calls.regrown_of (bwrapPlace h1 h2 (grow (redrawn w d) os)))
  have B := keep (fun w d os => Calls.regrown_of (bwrapPlace h3 h4 (grow (redrawn w d) os)))
  have L := keep (fun w d os => Calls.regrown_of (toB (bless rx2 ry2 rx1 ry1 dd ee h5 h6 (grow (redrawn w d) os))))
  have X := keep (fun w d os => Calls.regrown_of (toB (bwayIn h7 (grow (redrawn w d) os))))
  have Y := keep (fun w d os => Calls.regrown_of (toB (bwayIn h8 (grow (redrawn w d) os))))
  have P := keep (Has.made w 25 #[.int .i64 W, .int .i64 H])
  have k0 := cell_regrown (P.out.cells 0)
  have k1 := cell_regrown (P.out.cells 1)
  clear h1 h2 h3 h4 h5 h6 h7 h8
  unfold gridV at *
  go_enter Try.func58, Try.ntmps58
  go_wp2_with fail
  refine wp_region_quiet_below (by as_aux_lemma => kernel_rfl) (by as_aux_lemma => kernel_rfl) ?_
  repeat (any_goals (go_big_quiet_step (first | (with_reducible exact A.out _ _ _) | (with_reducible exact B.out _ _ _) | (with_reducible exact L.out _ _ _))))
  refine wpQuiet_nil ?_
  intro w2 hw2
  obtain ⟨⟨d2, os2⟩, rfl⟩ := hw2
  have hb2 := below_regrown (w.alloc (.cells #[.int .i64 W, .int .i64 H] 25)) d2 os2
  generalize grow (redrawn (w.alloc (.cells #[.int .i64 W, .int .i64 H] 25)) d2) os2 = w2 at *
  have hB := ((Below.refl w.heap.size w).alloc (Nat.le_refl _) (.cells #[.int .i64 W, .int .i64 H] 25)).trans (hb2.mono (by simp))
  have p2 := P.out.after hb2
  have k0 := cell_regrown (p2.cells 0)
  have k1 := cell_regrown (p2.cells 1)
  clear hb2 p2
  go_wp2_with fail
  refine wp_region_quiet_below (by as_aux_lemma => kernel_rfl) (by as_aux_lemma => kernel_rfl) ?_
  repeat (any_goals (go_big_quiet_step (first | (with_reducible exact X.out _ _ _) | (with_reducible exact Y.out _ _ _))))
  refine wpQuiet_nil ?_
  intro w3 hw3
  obtain ⟨⟨d3, os3⟩, rfl⟩ := hw3
  have hb3 := below_regrown w2 d3 os3
  generalize grow (redrawn w2 d3) os3 = w3 at *
  clear k0 k1
  go_wp2_with fail
  go_ret
  exact ⟨rfl, hB.trans (hb3.mono hB.size)⟩

set_option maxHeartbeats 1000000 in
theorem bWayBetween {W H x1 y1 x2 y2 a b : Nat} (hS : Sides W H) (n1 : Nm single x1) (n2 : Nm single y1) (n3 : Nm single x2) (n4 : Nm single y2) (h : BetwP W H x1 y1 x2 y2 a b) (w : World) : Calls Try.prog 28 #[gridV W H, .complex .f32 x1 y1, .complex .f32 x2 y2] w fun e w' => e = .returned (.tuple #[.complex .f32 a b, .bool true]) ∧ Below w.heap.size w w' := by
  have A := keep (fun w => isPlace_ok W H hS _ _ (finC_of n1 n2) w)
  have B := keep (fun w => isPlace_ok W H hS _ _ (finC_of n3 n4) w)
  have L := keep (fun w => bwayBetween h w)
  have P := keep (Has.made w 25 #[.int .i64 W, .int .i64 H])
  clear h hS n1 n2 n3 n4
  unfold gridV at *
  go_enter Try.func28, Try.ntmps28
  go_wp2_with fail
  refine (A.out _).mono ?_
  rintro e w1 ⟨rfl, hb⟩
  have hB := ((Below.refl w.heap.size w).alloc (Nat.le_refl _) (.cells #[.int .i64 W, .int .i64 H] 25)).trans (hb.mono (by simp))
  have p1 := P.out.after hb
  have c1 := p1.cells
  clear hb
  go_wp2_with fail
  refine (B.out _).mono ?_
  rintro e w2 ⟨rfl, hb⟩
  have hB2 := hB.trans (hb.mono hB.size)
  have p2 := p1.after hb
  have c1 := p2.cells
  clear hb
  go_wp2_with fail
  refine (L.out _).mono ?_
  rintro e w3 ⟨rfl, hb⟩
  have hB3 := hB2.trans (hb.mono hB2.size)
  clear hb c1
  go_wp2_with fail
  go_ret2
  exact ⟨rfl, hB3⟩
end Go.Proofs.Ytdonmboidpppmaa
