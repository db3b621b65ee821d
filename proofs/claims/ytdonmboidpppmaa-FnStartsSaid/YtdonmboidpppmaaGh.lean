/- Contracts: shares of the corners around a place; cells; wrapped places. -/
import Derived.Test.YtdonmboidpppmaaGe
import Derived.Outline
import Derived.Deep.RegionHeld
import Derived.Deep.DeepCutAuto
namespace Go.Proofs.Ytdonmboidpppmaa
open Go.RowKit Go.Sort Ieee

theorem bcellG {W w1 : World} (hb : Below W.heap.size W w1) : (∀ b o, b < W.heap.size → w1.cell? ⟨b, o, none⟩ = W.cell? ⟨b, o, none⟩) ∧ (∀ b o, b < W.heap.size → w1.frozen? ⟨b, o, none⟩ = W.frozen? ⟨b, o, none⟩) :=
  ⟨fun b o h => hb.cell (p := ⟨b, o, none⟩) h, fun b o h => hb.frozen (p := ⟨b, o, none⟩) h⟩
theorem has_at (w : World) (t : TypeId) (cs : Array Value) (b : Nat) (h : b = w.heap.size) : Has (w.alloc (.cells cs t)) b t cs := h ▸ Has.made w t cs
theorem one_word : wd single 3 8 = 1065353216 := by decide +kernel
theorem corner_word (n : Int) (h0 : 0 ≤ n) (h1 : n < 8) : floatOfInt .f32 n = wd single 3 (8 * n) := by
  have h := wd_up fit_single binade_le_single (k := 0) (a := n) 3 (by decide) (by show n.natAbs < 16777216; omega)
  rw [ofInt_wd, ← h]
  show wd single 3 _ = _
  rw [show n * ((2 ^ 3 : Nat) : Int) = 8 * n by omega]

/-- The parts of a place within its cell. -/
def frac (x : Int) (W : Nat) : Int := md x W % 8
def sharesV (f h : Int) : Value := .agg #[.float .f32 (wd single 6 ((8 - f) * (8 - h))), .float .f32 (wd single 6 (f * (8 - h))), .float .f32 (wd single 6 ((8 - f) * h)), .float .f32 (wd single 6 (f * h))]
def cornersV (W H : Nat) (x y : Int) : Value := .agg #[.int .i64 (idx W H x y), .int .i64 (idx W H (x + 1) y), .int .i64 (idx W H x (y + 1)), .int .i64 (idx W H (x + 1) (y + 1))]

set_option maxHeartbeats 4000000 in
set_option maxRecDepth 20000 in
theorem shares_ok (W H : Nat) (h : Sides W H) (x y : Int) (hp : PlaceOk x y) (w : World) : Calls Try.prog 67 #[gridV W H, placeV x y] w fun e w' => e = .returned (.tuple #[cornersV W H (md x W / 8) (md y H / 8), sharesV (frac x W) (frac y H)]) ∧ Below w.heap.size w w' := by
  have WP := keep (fun w => wrapPlace_ok W H h x y hp w)
  have CO := keep (fun w => cornerOf_ok W H h x y hp w)
  have IX := fun u v hx0 hx1 hy0 hy1 w => index_w W H h u v hx0 hx1 hy0 hy1 w
  obtain ⟨⟨h1, h2⟩, h3, h4⟩ := h
  obtain ⟨m0, m1⟩ := md_bounds x W h1
  obtain ⟨n0, n1⟩ := md_bounds y H h3
  have ix1 := keep (IX (md x W / 8) (md y H / 8) (by omega) (by omega) (by omega) (by omega))
  have ix2 := keep (IX (md x W / 8 + 1) (md y H / 8) (by omega) (by omega) (by omega) (by omega))
  have ix3 := keep (IX (md x W / 8) (md y H / 8 + 1) (by omega) (by omega) (by omega) (by omega))
  have ix4 := keep (IX (md x W / 8 + 1) (md y H / 8 + 1) (by omega) (by omega) (by omega) (by omega))
  have b1 : 0 ≤ md x W / 8 := by omega
  have b2 : md x W / 8 < 7 := by omega
  have b3 : 0 ≤ md y H / 8 := by omega
  have b4 : md y H / 8 < 7 := by omega
  have e1 := corner_word (md x W / 8) b1 (by omega)
  have e2 := corner_word (md y H / 8) b3 (by omega)
  have f1 := frun (fsub (k := 3) (a := md x W) (b := 8 * (md x W / 8)) (by omega) (by omega) (by omega) (by omega))
  have f2 := frun (fsub (k := 3) (a := md y H) (b := 8 * (md y H / 8)) (by omega) (by omega) (by omega) (by omega))
  rw [← e1, show md x W - 8 * (md x W / 8) = frac x W by unfold frac; omega] at f1
  rw [← e2, show md y H - 8 * (md y H / 8) = frac y H by unfold frac; omega] at f2
  have p1 : 0 ≤ frac x W := by unfold frac; omega
  have p2 : frac x W < 8 := by unfold frac; omega
  have p3 : 0 ≤ frac y H := by unfold frac; omega
  have p4 : frac y H < 8 := by unfold frac; omega
  have f3 := frun (fsub (k := 3) (a := 8) (b := frac x W) (by omega) (by omega) (by omega) (by omega))
  have f4 := frun (fsub (k := 3) (a := 8) (b := frac y H) (by omega) (by omega) (by omega) (by omega))
  rw [one_word] at f3 f4
  have lt64 : ∀ a b : Int, 0 ≤ a → a ≤ 8 → 0 ≤ b → b ≤ 8 → (a * b).natAbs < 16777216 := fun a b ha0 ha hb0 hb => by
    have h1 := Int.mul_le_mul ha hb hb0 (by omega)
    have h2 := Int.mul_nonneg ha0 hb0
    omega
  have f5 := frun (fmul (k := 3) (l := 3) (a := 8 - frac x W) (b := 8 - frac y H) (by omega) (by omega) (by omega) (by omega) (by omega) (by omega) (lt64 _ _ (by omega) (by omega) (by omega) (by omega)))
  have f6 := frun (fmul (k := 3) (l := 3) (a := frac x W) (b := 8 - frac y H) (by omega) (by omega) (by omega) (by omega) (by omega) (by omega) (lt64 _ _ (by omega) (by omega) (by omega) (by omega)))
  have f7 := frun (fmul (k := 3) (l := 3) (a := 8 - frac x W) (b := frac y H) (by omega) (by omega) (by omega) (by omega) (by omega) (by omega) (lt64 _ _ (by omega) (by omega) (by omega) (by omega)))
  have f8 := frun (fmul (k := 3) (l := 3) (a := frac x W) (b := frac y H) (by omega) (by omega) (by omega) (by omega) (by omega) (by omega) (lt64 _ _ (by omega) (by omega) (by omega) (by omega)))
  have F3 := keep f3
  have F4 := keep f4
  have F5 := keep f5
  have F6 := keep f6
  have F7 := keep f7
  have F8 := keep f8
  clear f3 f4 f5 f6 f7 f8 e1 e2 lt64 m0 m1 n0 n1
  have G0 := keep (((Has.made w 25 #[.int .i64 W, .int .i64 H]).beside (.cells #[.int .i64 0, .int .i64 0, .int .i64 0, .int .i64 0] 95)).beside (.cells #[.float .f32 0, .float .f32 0, .float .f32 0, .float .f32 0] 96))
  have A0 := (Has.made (w.alloc (.cells #[.int .i64 W, .int .i64 H] 25)) 95 #[.int .i64 0, .int .i64 0, .int .i64 0, .int .i64 0]).beside (.cells #[.float .f32 0, .float .f32 0, .float .f32 0, .float .f32 0] 96)
  have B0 := Has.made ((w.alloc (.cells #[.int .i64 W, .int .i64 H] 25)).alloc (.cells #[.int .i64 0, .int .i64 0, .int .i64 0, .int .i64 0] 95)) 96 #[.float .f32 0, .float .f32 0, .float .f32 0, .float .f32 0]
  simp only [World.size_alloc] at A0 B0
  have A0 := keep A0
  have B0 := keep B0
  have N0 := keep ((((Below.refl w.heap.size w).alloc (Nat.le_refl _) (.cells #[.int .i64 W, .int .i64 H] 25)).alloc (by simp) (.cells #[.int .i64 0, .int .i64 0, .int .i64 0, .int .i64 0] 95)).alloc (by simp; omega) (.cells #[.float .f32 0, .float .f32 0, .float .f32 0, .float .f32 0] 96))
  clear IX hp h1 h2 h3 h4
  generalize md x W / 8 = cx at *
  generalize md y H / 8 = cy at *
  unfold gridV placeV at *
  go_enter Try.func67, Try.ntmps67
  go_wp2_with fail
  refine (WP.out _).mono ?_
  rintro e w1 ⟨rfl, hb⟩
  have G1 := G0.out.after hb
  have A1 := keep (A0.out.after hb)
  have B1 := keep (B0.out.after hb)
  have N1 := keep (N0.out.trans (hb.mono (by simp; omega)))
  have c1 := G1.cells
  have G1 := keep G1
  clear hb
  go_wp2_with fail
  refine (CO.out _).mono ?_
  rintro e w2 ⟨rfl, hb⟩
  have G2 := G1.out.after hb
  have A2 := keep (A1.out.after hb)
  have B2 := keep (B1.out.after hb)
  have N2 := keep (N1.out.trans (hb.mono N1.out.size))
  have c2 := G2.cells
  have G2 := keep G2
  clear hb c1
  go_wp2_with fail
  have lg := G2.out.in_heap
  have k0 : w2.cell? ⟨w.heap.size, 0, none⟩ = some (.int .i64 W) := c2 0
  have k1 : w2.cell? ⟨w.heap.size, 1, none⟩ = some (.int .i64 H) := c2 1
  have f1' := keep f1
  have f2' := keep f2
  have v1 : IntKind.i64.wrap (cx + 1) = cx + 1 := IntWalk.i64_in _ ⟨by omega, by omega⟩
  have v2 : IntKind.i64.wrap (cy + 1) = cy + 1 := IntWalk.i64_in _ ⟨by omega, by omega⟩
  clear c2 f1 f2
  go_cut [11] (fun s11 wx => ∃ b : Nat, s11 = .pointer (some ⟨b, 0, none⟩) ∧ Has wx b 95 #[.int .i64 (idx W H cx cy), .int .i64 (idx W H (cx + 1) cy), .int .i64 (idx W H cx (cy + 1)), .int .i64 (idx W H (cx + 1) (cy + 1))] ∧ Below w2.heap.size w2 wx)
  case first =>
    go_region_held (fun wx => wx.cell? ⟨w.heap.size, 0, none⟩ = some (.int .i64 W) ∧ wx.cell? ⟨w.heap.size, 1, none⟩ = some (.int .i64 H) ∧ Below w2.heap.size w2 wx)
      ((refine (fun hB : Below w2.heap.size w2 _ => ⟨(hB.cell (p := ⟨w.heap.size, 0, none⟩) lg).trans k0, (hB.cell (p := ⟨w.heap.size, 1, none⟩) lg).trans k1, hB⟩) ?_; repeat' (first | (with_reducible assumption) | (with_reducible exact Below.refl _ _) | (with_reducible refine Below.drewN_of ?_ _) | (with_reducible refine Below.drew ?_) | (with_reducible refine Below.alloc ?_ ?_ _) | (with_reducible refine Below.setCell ?_ ?_ _) | (simp; done) | (simp; omega))))
      (first
        | ((with_reducible refine (ix1.out _).mono ?_); rintro e w3 ⟨rfl, m3, rfl⟩)
        | ((with_reducible refine (ix2.out _).mono ?_); rintro e w4 ⟨rfl, m4, rfl⟩)
        | ((with_reducible refine (ix3.out _).mono ?_); rintro e w5 ⟨rfl, m5, rfl⟩)
        | ((with_reducible refine (ix4.out _).mono ?_); rintro e w6 ⟨rfl, m6, rfl⟩))
    all_goals
      clear G0 A0 B0 N0 G1 A1 B1 N1 A2 B2 N2 WP CO ix1 ix2 ix3 ix4
      go_wp2_with fail
      go_meet
      refine ⟨_, rfl, ?_, ?_⟩
      · repeat' (first | (with_reducible refine has_at _ _ _ _ (by simp)) | (with_reducible refine Has.draws ?_ _) | (with_reducible refine Has.beside ?_ _))
      · repeat' (first | (with_reducible assumption) | (with_reducible exact Below.refl _ _) | (with_reducible refine Below.drewN_of ?_ _) | (with_reducible refine Below.drew ?_) | (with_reducible refine Below.alloc ?_ ?_ _) | (with_reducible refine Below.setCell ?_ ?_ _) | (simp; done) | (simp; omega))
  case rest =>
    obtain ⟨b, rfl, hb3, hbw⟩ := hcut
    have a3 := A2.out.after hbw
    have d3 := B2.out.after hbw
    have N3 := keep (N2.out.trans (hbw.mono N2.out.size))
    have ca := a3.cells
    have fa := a3.free
    have cb := d3.cells
    have fb := d3.free
    have cn := hb3.cells
    have f3 := F3.out
    have f4 := F4.out
    have f5 := F5.out
    have f6 := F6.out
    have f7 := F7.out
    have f8 := F8.out
    clear v1 v2 k0 k1 hbw G0 A0 B0 N0 G1 A1 B1 N1 A2 B2 N2 WP CO ix1 ix2 ix3 ix4 F3 F4 F5 F6 F7 F8 b1 b2 b3 b4 p1 p2 p3 p4
    go_wp2_with fail
    have q4 := ((((((((a3.written 0 (.int .i64 (idx W H cx cy))).written 1 (.int .i64 (idx W H (cx + 1) cy))).written 2 (.int .i64 (idx W H cx (cy + 1)))).written 3 (.int .i64 (idx W H (cx + 1) (cy + 1)))).elsewhere (p := ⟨w.heap.size + 1 + 1, 0, none⟩) (by show w.heap.size + 1 ≠ w.heap.size + 1 + 1; omega) (.float .f32 (wd single 6 ((8 - frac x W) * (8 - frac y H))))).elsewhere (p := ⟨w.heap.size + 1 + 1, 1, none⟩) (by show w.heap.size + 1 ≠ w.heap.size + 1 + 1; omega) (.float .f32 (wd single 6 (frac x W * (8 - frac y H))))).elsewhere (p := ⟨w.heap.size + 1 + 1, 2, none⟩) (by show w.heap.size + 1 ≠ w.heap.size + 1 + 1; omega) (.float .f32 (wd single 6 ((8 - frac x W) * frac y H)))).elsewhere (p := ⟨w.heap.size + 1 + 1, 3, none⟩) (by show w.heap.size + 1 ≠ w.heap.size + 1 + 1; omega) (.float .f32 (wd single 6 (frac x W * frac y H))))
    have q5 := ((((((((d3.elsewhere (p := ⟨w.heap.size + 1, 0, none⟩) (by show w.heap.size + 1 + 1 ≠ w.heap.size + 1; omega) (.int .i64 (idx W H cx cy))).elsewhere (p := ⟨w.heap.size + 1, 1, none⟩) (by show w.heap.size + 1 + 1 ≠ w.heap.size + 1; omega) (.int .i64 (idx W H (cx + 1) cy))).elsewhere (p := ⟨w.heap.size + 1, 2, none⟩) (by show w.heap.size + 1 + 1 ≠ w.heap.size + 1; omega) (.int .i64 (idx W H cx (cy + 1)))).elsewhere (p := ⟨w.heap.size + 1, 3, none⟩) (by show w.heap.size + 1 + 1 ≠ w.heap.size + 1; omega) (.int .i64 (idx W H (cx + 1) (cy + 1)))).written 0 (.float .f32 (wd single 6 ((8 - frac x W) * (8 - frac y H))))).written 1 (.float .f32 (wd single 6 (frac x W * (8 - frac y H))))).written 2 (.float .f32 (wd single 6 ((8 - frac x W) * frac y H)))).written 3 (.float .f32 (wd single 6 (frac x W * frac y H))))
    have bb := ((((((((N3.out.setCell (p := ⟨w.heap.size + 1, 0, none⟩) (by show w.heap.size ≤ w.heap.size + 1; omega) (.int .i64 (idx W H cx cy))).setCell (p := ⟨w.heap.size + 1, 1, none⟩) (by show w.heap.size ≤ w.heap.size + 1; omega) (.int .i64 (idx W H (cx + 1) cy))).setCell (p := ⟨w.heap.size + 1, 2, none⟩) (by show w.heap.size ≤ w.heap.size + 1; omega) (.int .i64 (idx W H cx (cy + 1)))).setCell (p := ⟨w.heap.size + 1, 3, none⟩) (by show w.heap.size ≤ w.heap.size + 1; omega) (.int .i64 (idx W H (cx + 1) (cy + 1)))).setCell (p := ⟨w.heap.size + 1 + 1, 0, none⟩) (by show w.heap.size ≤ w.heap.size + 1 + 1; omega) (.float .f32 (wd single 6 ((8 - frac x W) * (8 - frac y H))))).setCell (p := ⟨w.heap.size + 1 + 1, 1, none⟩) (by show w.heap.size ≤ w.heap.size + 1 + 1; omega) (.float .f32 (wd single 6 (frac x W * (8 - frac y H))))).setCell (p := ⟨w.heap.size + 1 + 1, 2, none⟩) (by show w.heap.size ≤ w.heap.size + 1 + 1; omega) (.float .f32 (wd single 6 ((8 - frac x W) * frac y H)))).setCell (p := ⟨w.heap.size + 1 + 1, 3, none⟩) (by show w.heap.size ≤ w.heap.size + 1 + 1; omega) (.float .f32 (wd single 6 (frac x W * frac y H))))
    have z4 := q4.cells
    have z5 := q5.cells
    exact bodyPost_ret (v := .tuple #[cornersV W H cx cy, sharesV (frac x W) (frac y H)]) (by simp [results, Try.results67, go_sem, z4, z5, cornersV, sharesV]) rfl ⟨rfl, bb⟩
end Go.Proofs.Ytdonmboidpppmaa
