/- Contracts: drifts, leaps and leaps undone, ways and speeds of leaps, by the chains of operations. No condition but that the chains run and end in numbers. -/
import Derived.Test.YtdonmboidpppmaaVe
import Derived.Test.YtdonmboidpppmaaVc
import Derived.Test.YtdonmboidpppmaaBd
import Derived.Test.YtdonmboidpppmaaHc
import Derived.Deep.DeepCutAuto
namespace Go.Proofs.Ytdonmboidpppmaa
open Go.RowKit Go.Sort Ieee
set_option linter.unusedSimpArgs false
set_option linter.unusedVariables false

def pC (x y u v q m : Nat) : Array Value := #[.complex .f32 x y, .complex .f32 u v, .float .f32 q, .float .f32 m]
def set4 (w : World) (g : Nat) (a b c d : Value) : World := (((w.setCell ⟨g, 0, none⟩ a).setCell ⟨g, 1, none⟩ b).setCell ⟨g, 2, none⟩ c).setCell ⟨g, 3, none⟩ d
theorem set4_has {w : World} {g : Nat} {t : TypeId} {z0 z1 z2 z3 : Value} (h : Has w g t #[z0, z1, z2, z3]) (a b c d : Value) : Has (set4 w g a b c d) g t #[a, b, c, d] := (((h.written 0 a).written 1 b).written 2 c).written 3 d
theorem set4_else {w : World} {g g' : Nat} {t : TypeId} {cs : Array Value} (h : Has w g t cs) (ne : g ≠ g') (a b c d : Value) : Has (set4 w g' a b c d) g t cs := (((h.elsewhere (p := ⟨g', 0, none⟩) ne a).elsewhere (p := ⟨g', 1, none⟩) ne b).elsewhere (p := ⟨g', 2, none⟩) ne c).elsewhere (p := ⟨g', 3, none⟩) ne d
theorem set4_below {w0 w : World} {B g : Nat} (h : Below B w0 w) (hg : B ≤ g) (a b c d : Value) : Below B w0 (set4 w g a b c d) := (((h.setCell (p := ⟨g, 0, none⟩) hg a).setCell (p := ⟨g, 1, none⟩) hg b).setCell (p := ⟨g, 2, none⟩) hg c).setCell (p := ⟨g, 3, none⟩) hg d
/-- Three blocks made one after another. -/
theorem three_made (w : World) (s t r : TypeId) (A B C : Array Value) : ∃ W0, W0 = ((w.alloc (.cells A s)).alloc (.cells B t)).alloc (.cells C r) ∧ Has W0 w.heap.size s A ∧ Has W0 (w.heap.size + 1) t B ∧ Has W0 (w.heap.size + 1 + 1) r C ∧ Below w.heap.size w W0 := by
  refine ⟨_, rfl, ?_, ?_, ?_, ?_⟩
  · exact ((Has.made w s A).beside (.cells B t)).beside (.cells C r)
  · have h := Has.made (w.alloc (.cells A s)) t B
    rw [World.size_alloc] at h
    exact h.beside (.cells C r)
  · have h := Has.made ((w.alloc (.cells A s)).alloc (.cells B t)) r C
    rw [World.size_alloc, World.size_alloc] at h
    exact h
  · exact (((Below.refl w.heap.size w).alloc (Nat.le_refl _) _).alloc (by rw [World.size_alloc]; omega) _).alloc (by rw [World.size_alloc, World.size_alloc]; omega) _

set_option maxHeartbeats 2000000 in
theorem bWrapPlace {W H x y rx ry : Nat} (hS : Sides W H) (nx : Nm single x) (ny : Nm single y) (hx : WrapW x W rx) (hy : WrapW y H ry) (w : World) : Calls Try.prog 75 #[gridV W H, .complex .f32 x y] w fun e w' => e = .returned (.tuple #[.complex .f32 rx ry, .bool true]) ∧ Below w.heap.size w w' := by
  have IP := keep (fun w => isPlace_ok W H hS _ _ (finC_of nx ny) w)
  have WP := keep (fun w => bwrapPlace hx hy w)
  have P := keep (Has.made w 25 #[.int .i64 W, .int .i64 H])
  have B0 := keep ((Below.refl w.heap.size w).alloc (Nat.le_refl _) (.cells #[.int .i64 W, .int .i64 H] 25))
  clear hS nx ny hx hy
  unfold gridV at *
  go_enter Try.func75, Try.ntmps75
  go_wp2_with fail
  refine (IP.out _).mono ?_
  rintro e w1 ⟨rfl, hb⟩
  have p1 := P.out.after hb
  have cg := p1.cells
  have B1 := keep (B0.out.trans (hb.mono B0.out.size))
  clear hb B0 P IP p1
  go_wp2_with fail
  refine (WP.out _).mono ?_
  rintro e w2 ⟨rfl, hb⟩
  have B2 := keep (B1.out.trans (hb.mono B1.out.size))
  clear hb B1 WP cg
  go_wp2_with fail
  go_ret2
  exact ⟨rfl, B2.out⟩

set_option maxHeartbeats 4000000 in
theorem bDriftPlace {W H x y u v tick rx ry : Nat} (hS : Sides W H) (nx : Nm single x) (ny : Nm single y) (nu : Nm single u) (nv : Nm single v) (nt : Nm single tick) (h : DriftW W H x y u v tick rx ry) (w : World) : Calls Try.prog 51 #[gridV W H, .complex .f32 x y, .complex .f32 u v, .float .f32 tick] w fun e w' => e = .returned (.tuple #[.complex .f32 rx ry, .bool true]) ∧ Below w.heap.size w w' := by
  obtain ⟨dx, dy, sx, sy, e1, e2, e3, e4, n1, n2, w1, w2⟩ := h
  have IP := keep (fun w => isPlace_ok W H hS _ _ (finC_of nx ny) w)
  have IC := keep (fun w => toBN (bIsC u v nu nv w))
  have IF := keep (fun w => toBN (bIsF tick nt w))
  have SC := keep (fun w d os => Calls.regrown_of (toB (zScale u v tick dx dy e1 e2 (grow (redrawn w d) os))))
  have PL := keep (fun w d os => Calls.regrown_of (toB (bplus x y dx dy sx sy e3 e4 (grow (redrawn w d) os))))
  have WP := keep (fun w d os => Calls.regrown_of (bWrapPlace hS n1 n2 w1 w2 (grow (redrawn w d) os)))
  have P := keep (Has.made w 25 #[.int .i64 W, .int .i64 H])
  have B0 := keep ((Below.refl w.heap.size w).alloc (Nat.le_refl _) (.cells #[.int .i64 W, .int .i64 H] 25))
  clear hS nx ny nu nv nt e1 e2 e3 e4 n1 n2 w1 w2
  unfold gridV at *
  go_enter Try.func51, Try.ntmps51
  go_wp2_with fail
  refine (IP.out _).mono ?_
  rintro e w1 ⟨rfl, hb⟩
  have P1 := keep (P.out.after hb)
  have B1 := keep (B0.out.trans (hb.mono B0.out.size))
  clear hb B0 P IP
  go_wp2_with fail
  refine (IC.out _).mono ?_
  rintro e w2 ⟨rfl, hb⟩
  have P2 := keep (P1.out.after hb)
  have B2 := keep (B1.out.trans (hb.mono B1.out.size))
  clear hb B1 P1 IC
  go_wp2_with fail
  refine (IF.out _).mono ?_
  rintro e w3 ⟨rfl, hb⟩
  have p3 := P2.out.after hb
  have B3 := keep (B2.out.trans (hb.mono B2.out.size))
  have k0 := cell_regrown (p3.cells 0)
  have k1 := cell_regrown (p3.cells 1)
  clear hb B2 P2 IF p3
  go_wp2_with fail
  refine wp_region_quiet_below (by as_aux_lemma => kernel_rfl) (by as_aux_lemma => kernel_rfl) ?_
  repeat (any_goals (go_big_quiet_step (first | (with_reducible exact SC.out _ _ _) | (with_reducible exact PL.out _ _ _) | (with_reducible exact WP.out _ _ _))))
  refine wpQuiet_nil ?_
  intro w8 hw8
  obtain ⟨⟨d8, os8⟩, rfl⟩ := hw8
  have hb8 := below_regrown w3 d8 os8
  generalize grow (redrawn w3 d8) os8 = w8 at *
  have B8 := keep (B3.out.trans (hb8.mono B3.out.size))
  clear k0 k1 hb8
  go_wp2_with fail
  go_ret2
  exact ⟨rfl, B8.out⟩

set_option maxHeartbeats 2000000 in
theorem bisMagnet (W H : Nat) (hS : Sides W H) (a b : Option Addr) (c d mag tick : Nat) (nmag : Nm single mag) (nt : Nm single tick) (w : World) : Calls Try.prog 37 #[gridV W H, .slice a (W * H) c, .slice b (W * H) d, .float .f32 mag, .float .f32 tick] w fun e w' => e = .returned (.bool true) ∧ Below w.heap.size w w' := by
  have AR := keep (fun w => areFields_ok W H hS a b c d w)
  have AF := keep (fun b w h => toBN (bAreFinite mag tick nmag nt b w h))
  have P := keep (Has.made w 25 #[.int .i64 W, .int .i64 H])
  have B0 := keep ((Below.refl w.heap.size w).alloc (Nat.le_refl _) (.cells #[.int .i64 W, .int .i64 H] 25))
  clear hS nmag nt
  unfold gridV at *
  generalize W * H = n at *
  go_enter Try.func37, Try.ntmps37
  go_wp2_with fail
  refine (AR.out _).mono ?_
  rintro e w1 ⟨rfl, hb⟩
  have B1 := keep (B0.out.trans (hb.mono B0.out.size))
  clear hb B0 P AR
  go_wp2_with fail
  refine (AF.out _ _ (Has.made _ _ _)).mono ?_
  rintro e w2 ⟨rfl, hb⟩
  have B2 := keep ((B1.out.alloc B1.out.size (.cells #[.float .f32 mag, .float .f32 tick] 32)).trans (hb.mono (B1.out.alloc B1.out.size (.cells #[.float .f32 mag, .float .f32 tick] 32)).size))
  clear hb B1 AF
  go_wp2_with fail
  go_ret
  exact ⟨rfl, B2.out⟩

theorem FldW.set {w : World} {g : Nat} {F : List Nat} (h : FldW w g F) {p : Addr} (ne : g ≠ p.block) (v : Value) : FldW (w.setCell p v) g F :=
  ⟨by simpa [World.setCell] using h.1, fun i hi => (World.cell?_of_block (w := w) (a := ⟨g, i, none⟩) (Below.heap_setCell w p v g ne)).trans (h.2 i hi)⟩

set_option maxHeartbeats 8000000 in
set_option maxRecDepth 20000 in
theorem bLeapOnce {W H : Nat} {F1 F2 : List Nat} {mag tick : Nat} {p p' : PD} (hS : Sides W H) (nmag : Nm single mag) (nt : Nm single tick) (hV : PNm p.a p.b p.c p.d p.q p.m) (hL : LeapW W H F1 F2 mag tick p p') (g1 g2 q1 q2 : Nat) (hl1 : F1.length = W * H) (hl2 : F2.length = W * H) (w : World) (hh1 : FldW w g1 F1) (hh2 : FldW w g2 F2) :
    Calls Try.prog 15 #[gridV W H, p.agg, .slice (some ⟨g1, 0, none⟩) (W * H) q1, .slice (some ⟨g2, 0, none⟩) (W * H) q2, .float .f32 mag, .float .f32 tick] w fun e w' => e = .returned (.tuple #[p'.agg, .bool true]) ∧ Below w.heap.size w w' := by
  obtain ⟨x, y, u, v, q0, m0⟩ := p
  obtain ⟨x', y', u', v', q, m⟩ := p'
  obtain ⟨rx, ry, cx, cy, fx, fy, hA, hG1, hG2, n1, n2, hP, n3, n4, hD, rfl, rfl⟩ := hL
  dsimp only at *
  have MA := keep (fun w => bisMagnet W H hS (some ⟨g1, 0, none⟩) (some ⟨g2, 0, none⟩) q1 q2 mag tick nmag nt w)
  have VA := keep (fun w => hV.valid w)
  have GT := keep (fun w h1 h2 => bGatherTwo hS hV.hx hV.hy hA hG1 hG2 g1 g2 q1 q2 hl1 hl2 w h1 h2)
  have PS := keep (fun w => bPushSpeed hV n1 n2 nmag nt hP n3 n4 w)
  have DR := keep (fun w => bDriftPlace hS hV.hx hV.hy n3 n4 nt hD w)
  obtain ⟨W0, eW, HG, HA, HZ, BW⟩ := three_made w 25 41 41 #[.int .i64 W, .int .i64 H] (pC x y u v q m) (pC 0 0 0 0 0 0)
  have HG0 := keep HG
  have HA0 := keep HA
  have HZ0 := keep HZ
  have B0 := keep BW
  have X0 := keep (hh1.after BW)
  have Y0 := keep (hh2.after BW)
  have EW := keep eW
  have lg1 := hh1.1
  have lg2 := hh2.1
  clear eW HG HA HZ BW hh1 hh2 hS nmag nt hV hA hG1 hG2 n1 n2 hP n3 n4 hD hl1 hl2
  unfold PD.agg
  unfold pC pAgg gridV at *
  generalize hn : W * H = n at *
  clear hn
  have kG := HG0.out.cells
  have kA := HA0.out.cells
  go_enter Try.func15, Try.ntmps15
  go_wp2_with fail
  rw [← EW.out]
  clear EW
  go_wp2_with fail
  refine (MA.out _).mono ?_
  rintro e w1 ⟨rfl, hb⟩
  clear kG kA
  have HG1 := keep (HG0.out.after hb)
  have HA1 := keep (HA0.out.after hb)
  have HZ1 := keep (HZ0.out.after hb)
  have X1 := keep (X0.out.after hb)
  have Y1 := keep (Y0.out.after hb)
  have B1 := keep (B0.out.trans (hb.mono B0.out.size))
  clear hb HG0 HA0 HZ0 X0 Y0 B0
  have kG := HG1.out.cells
  have kA := HA1.out.cells
  go_wp2_with fail
  refine (VA.out _).mono ?_
  rintro e w2 ⟨rfl, hb⟩
  clear kG kA
  have HG2 := keep (HG1.out.after hb)
  have HA2 := keep (HA1.out.after hb)
  have HZ2 := keep (HZ1.out.after hb)
  have X2 := keep (X1.out.after hb)
  have Y2 := keep (Y1.out.after hb)
  have B2 := keep (B1.out.trans (hb.mono B1.out.size))
  clear hb HG1 HA1 HZ1 X1 Y1 B1
  have kG := HG2.out.cells
  have kA := HA2.out.cells
  go_wp2_with fail
  refine (GT.out _ X2.out Y2.out).mono ?_
  rintro e w3 ⟨rfl, hb⟩
  clear kG kA
  have HG3 := keep (HG2.out.after hb)
  have HA3 := keep (HA2.out.after hb)
  have HZ3 := keep (HZ2.out.after hb)
  have X3 := keep (X2.out.after hb)
  have Y3 := keep (Y2.out.after hb)
  have B3 := keep (B2.out.trans (hb.mono B2.out.size))
  clear hb HG2 HA2 HZ2 X2 Y2 B2
  have kG := HG3.out.cells
  have kA := HA3.out.cells
  go_wp2_with fail
  refine (PS.out _).mono ?_
  rintro e w4 ⟨rfl, hb⟩
  clear kG kA
  have HG4 := keep (HG3.out.after hb)
  have HA4 := keep (HA3.out.after hb)
  have HZ4 := keep (HZ3.out.after hb)
  have X4 := keep (X3.out.after hb)
  have Y4 := keep (Y3.out.after hb)
  have B4 := keep (B3.out.trans (hb.mono B3.out.size))
  clear hb HG3 HA3 HZ3 X3 Y3 B3
  have kG := HG4.out.cells
  have kA := HA4.out.cells
  go_wp2_with fail
  refine (DR.out _).mono ?_
  rintro e w5 ⟨rfl, hb⟩
  clear kG kA
  have HG5 := keep (HG4.out.after hb)
  have HA5 := keep (HA4.out.after hb)
  have HZ5 := keep (HZ4.out.after hb)
  have X5 := keep (X4.out.after hb)
  have Y5 := keep (Y4.out.after hb)
  have B5 := keep (B4.out.trans (hb.mono B4.out.size))
  clear hb HG4 HA4 HZ4 X4 Y4 B4
  have kG := HG5.out.cells
  have kA := HA5.out.cells
  have uA := HA5.out.free
  have lA := HA5.out.in_heap
  have HAf : Kept (Has ((w5.setCell ⟨w.heap.size + 1, 1, none⟩ (.complex .f32 u' v')).setCell ⟨w.heap.size + 1, 0, none⟩ (.complex .f32 x' y')) (w.heap.size + 1) 41 #[.complex .f32 x' y', .complex .f32 u' v', .float .f32 q, .float .f32 m]) := keep ((HA5.out.written 1 (.complex .f32 u' v')).written 0 (.complex .f32 x' y'))
  have HZf := keep ((HZ5.out.elsewhere (p := ⟨w.heap.size + 1, 1, none⟩) (by show w.heap.size + 1 + 1 ≠ w.heap.size + 1; omega) (.complex .f32 u' v')).elsewhere (p := ⟨w.heap.size + 1, 0, none⟩) (by show w.heap.size + 1 + 1 ≠ w.heap.size + 1; omega) (.complex .f32 x' y'))
  have Bf := keep ((B5.out.setCell (p := ⟨w.heap.size + 1, 1, none⟩) (by show w.heap.size ≤ w.heap.size + 1; omega) (.complex .f32 u' v')).setCell (p := ⟨w.heap.size + 1, 0, none⟩) (by show w.heap.size ≤ w.heap.size + 1; omega) (.complex .f32 x' y'))
  go_upto_region 9 with fail
  clear HG5 HA5 HZ5 X5 Y5 B5 kG kA uA lA
  generalize ((w5.setCell ⟨w.heap.size + 1, 1, none⟩ (.complex .f32 u' v')).setCell ⟨w.heap.size + 1, 0, none⟩ (.complex .f32 x' y')) = wf at *
  have kA := HAf.out.cells
  have kZ := HZf.out.cells
  have uZ := HZf.out.free
  have lZ := HZf.out.in_heap
  have E1 := keep (set4_has HZf.out (.complex .f32 x' y') (.complex .f32 u' v') (.float .f32 q) (.float .f32 m))
  have E2 := keep (set4_below Bf.out (g := w.heap.size + 1 + 1) (by omega) (.complex .f32 x' y') (.complex .f32 u' v') (.float .f32 q) (.float .f32 m))
  obtain ⟨X, hX⟩ : ∃ X, X = set4 wf (w.heap.size + 1 + 1) (.complex .f32 x' y') (.complex .f32 u' v') (.float .f32 q) (.float .f32 m) := ⟨_, rfl⟩
  rw [← hX] at E1 E2
  unfold set4 at hX
  go_wp2_with fail
  rw [← hX]
  clear hX kA kZ uZ lZ HAf HZf Bf
  have c1 := E1.out.cells
  exact bodyPost_ret (v := .tuple #[.agg #[.complex .f32 x' y', .complex .f32 u' v', .float .f32 q, .float .f32 m], .bool true]) (by simp [results, Try.results15, go_sem, c1]; try rfl) rfl ⟨rfl, E2.out⟩

set_option maxHeartbeats 8000000 in
set_option maxRecDepth 20000 in
theorem bBackOnce {W H : Nat} {F1 F2 : List Nat} {mag tick : Nat} {p p' : PD} (hS : Sides W H) (nmag : Nm single mag) (nt : Nm single tick) (hV : PNm p.a p.b p.c p.d p.q p.m) (hL : BackW W H F1 F2 mag tick p p') (n5 : Nm single p'.a) (n6 : Nm single p'.b) (g1 g2 q1 q2 : Nat) (hl1 : F1.length = W * H) (hl2 : F2.length = W * H) (w : World) (hh1 : FldW w g1 F1) (hh2 : FldW w g2 F2) :
    Calls Try.prog 27 #[gridV W H, p.agg, .slice (some ⟨g1, 0, none⟩) (W * H) q1, .slice (some ⟨g2, 0, none⟩) (W * H) q2, .float .f32 mag, .float .f32 tick] w fun e w' => e = .returned (.tuple #[p'.agg, .bool true]) ∧ Below w.heap.size w w' := by
  obtain ⟨x, y, u, v, q0, m0⟩ := p
  obtain ⟨x', y', u', v', q, m⟩ := p'
  obtain ⟨rx, ry, cx, cy, fx, fy, hD, hA, hG1, hG2, n1, n2, hP, n3, n4, rfl, rfl⟩ := hL
  dsimp only at *
  have MA := keep (fun w => bisMagnet W H hS (some ⟨g1, 0, none⟩) (some ⟨g2, 0, none⟩) q1 q2 mag tick nmag nt w)
  have VA := keep (fun w => hV.valid w)
  have nnt := (neg32_V nt).1
  have hV2 : PNm x' y' u v q m := ⟨hV.p, n5, n6, hV.hu, hV.hv, hV.hq, hV.hm⟩
  have f5 := znegf tick
  have DR := keep (fun w => bDriftPlace hS hV.hx hV.hy hV.hu hV.hv nnt hD w)
  have GT := keep (fun w h1 h2 => bGatherTwo hS n5 n6 hA hG1 hG2 g1 g2 q1 q2 hl1 hl2 w h1 h2)
  have PS := keep (fun w => bPushSpeed hV2 n1 n2 nmag nnt hP n3 n4 w)
  obtain ⟨W0, eW, HG, HA, HZ, BW⟩ := three_made w 25 41 41 #[.int .i64 W, .int .i64 H] (pC x y u v q m) (pC 0 0 0 0 0 0)
  have HG0 := keep HG
  have HA0 := keep HA
  have HZ0 := keep HZ
  have B0 := keep BW
  have X0 := keep (hh1.after BW)
  have Y0 := keep (hh2.after BW)
  have EW := keep eW
  have lg1 := hh1.1
  have lg2 := hh2.1
  clear eW HG HA HZ BW hh1 hh2 hS nmag nt hV hA hG1 hG2 n1 n2 hP n3 n4 n5 n6 hD hl1 hl2 nnt hV2
  unfold PD.agg
  unfold pC pAgg gridV at *
  generalize hn : W * H = n at *
  clear hn
  have kG := HG0.out.cells
  have kA := HA0.out.cells
  go_enter Try.func27, Try.ntmps27
  go_wp2_with fail
  rw [← EW.out]
  clear EW
  go_wp2_with fail
  refine (MA.out _).mono ?_
  rintro e w1 ⟨rfl, hb⟩
  clear kG kA
  have HG1 := keep (HG0.out.after hb)
  have HA1 := keep (HA0.out.after hb)
  have HZ1 := keep (HZ0.out.after hb)
  have X1 := keep (X0.out.after hb)
  have Y1 := keep (Y0.out.after hb)
  have B1 := keep (B0.out.trans (hb.mono B0.out.size))
  clear hb HG0 HA0 HZ0 X0 Y0 B0
  have kG := HG1.out.cells
  have kA := HA1.out.cells
  go_wp2_with fail
  refine (VA.out _).mono ?_
  rintro e w2 ⟨rfl, hb⟩
  clear kG kA
  have HG2 := keep (HG1.out.after hb)
  have HA2 := keep (HA1.out.after hb)
  have HZ2 := keep (HZ1.out.after hb)
  have X2 := keep (X1.out.after hb)
  have Y2 := keep (Y1.out.after hb)
  have B2 := keep (B1.out.trans (hb.mono B1.out.size))
  clear hb HG1 HA1 HZ1 X1 Y1 B1
  have kG := HG2.out.cells
  have kA := HA2.out.cells
  go_wp2_with fail
  refine (DR.out _).mono ?_
  rintro e w3 ⟨rfl, hb⟩
  clear kG kA
  have HG3 := keep (HG2.out.after hb)
  have HA3 := keep (HA2.out.after hb)
  have HZ3 := keep (HZ2.out.after hb)
  have X3 := keep (X2.out.after hb)
  have Y3 := keep (Y2.out.after hb)
  have B3 := keep (B2.out.trans (hb.mono B2.out.size))
  clear hb HG2 HA2 HZ2 X2 Y2 B2
  have kG := HG3.out.cells
  have kA := HA3.out.cells
  have uA := HA3.out.free
  have lA := HA3.out.in_heap
  have HGs := keep (HG3.out.elsewhere (p := ⟨w.heap.size + 1, 0, none⟩) (by show w.heap.size ≠ w.heap.size + 1; omega) (.complex .f32 x' y'))
  have HAs : Kept (Has (w3.setCell ⟨w.heap.size + 1, 0, none⟩ (.complex .f32 x' y')) (w.heap.size + 1) 41 #[.complex .f32 x' y', .complex .f32 u v, .float .f32 q, .float .f32 m]) := keep (HA3.out.written 0 (.complex .f32 x' y'))
  have HZs := keep (HZ3.out.elsewhere (p := ⟨w.heap.size + 1, 0, none⟩) (by show w.heap.size + 1 + 1 ≠ w.heap.size + 1; omega) (.complex .f32 x' y'))
  have Bs := keep (B3.out.setCell (p := ⟨w.heap.size + 1, 0, none⟩) (by show w.heap.size ≤ w.heap.size + 1; omega) (.complex .f32 x' y'))
  have Xs := keep (X3.out.set (p := ⟨w.heap.size + 1, 0, none⟩) (by show g1 ≠ w.heap.size + 1; omega) (.complex .f32 x' y'))
  have Ys := keep (Y3.out.set (p := ⟨w.heap.size + 1, 0, none⟩) (by show g2 ≠ w.heap.size + 1; omega) (.complex .f32 x' y'))
  go_wp2_with fail
  clear HG3 HA3 HZ3 X3 Y3 B3 kG kA uA lA
  generalize w3.setCell ⟨w.heap.size + 1, 0, none⟩ (.complex .f32 x' y') = w4 at *
  have HG4 := HGs
  have HA4 := HAs
  have HZ4 := HZs
  have X4 := Xs
  have Y4 := Ys
  have B4 := Bs
  clear HGs HAs HZs Xs Ys Bs
  have kG := HG4.out.cells
  have kA := HA4.out.cells
  refine (GT.out _ X4.out Y4.out).mono ?_
  rintro e w5 ⟨rfl, hb⟩
  clear kG kA
  have HG5 := keep (HG4.out.after hb)
  have HA5 := keep (HA4.out.after hb)
  have HZ5 := keep (HZ4.out.after hb)
  have X5 := keep (X4.out.after hb)
  have Y5 := keep (Y4.out.after hb)
  have B5 := keep (B4.out.trans (hb.mono B4.out.size))
  clear hb HG4 HA4 HZ4 X4 Y4 B4
  have kG := HG5.out.cells
  have kA := HA5.out.cells
  go_wp2_with fail
  refine (PS.out _).mono ?_
  rintro e w6 ⟨rfl, hb⟩
  clear kG kA
  have HG6 := keep (HG5.out.after hb)
  have HA6 := keep (HA5.out.after hb)
  have HZ6 := keep (HZ5.out.after hb)
  have X6 := keep (X5.out.after hb)
  have Y6 := keep (Y5.out.after hb)
  have B6 := keep (B5.out.trans (hb.mono B5.out.size))
  clear hb HG5 HA5 HZ5 X5 Y5 B5
  have kG := HG6.out.cells
  have kA := HA6.out.cells
  have uA := HA6.out.free
  have lA := HA6.out.in_heap
  have HAf : Kept (Has (w6.setCell ⟨w.heap.size + 1, 1, none⟩ (.complex .f32 u' v')) (w.heap.size + 1) 41 #[.complex .f32 x' y', .complex .f32 u' v', .float .f32 q, .float .f32 m]) := keep (HA6.out.written 1 (.complex .f32 u' v'))
  have HZf := keep (HZ6.out.elsewhere (p := ⟨w.heap.size + 1, 1, none⟩) (by show w.heap.size + 1 + 1 ≠ w.heap.size + 1; omega) (.complex .f32 u' v'))
  have Bf := keep (B6.out.setCell (p := ⟨w.heap.size + 1, 1, none⟩) (by show w.heap.size ≤ w.heap.size + 1; omega) (.complex .f32 u' v'))
  go_upto_region 12 with fail
  clear HG6 HA6 HZ6 X6 Y6 B6 kG kA uA lA
  generalize (w6.setCell ⟨w.heap.size + 1, 1, none⟩ (.complex .f32 u' v')) = wf at *
  have kA := HAf.out.cells
  have kZ := HZf.out.cells
  have uZ := HZf.out.free
  have lZ := HZf.out.in_heap
  have E1 := keep (set4_has HZf.out (.complex .f32 x' y') (.complex .f32 u' v') (.float .f32 q) (.float .f32 m))
  have E2 := keep (set4_below Bf.out (g := w.heap.size + 1 + 1) (by omega) (.complex .f32 x' y') (.complex .f32 u' v') (.float .f32 q) (.float .f32 m))
  obtain ⟨X, hX⟩ : ∃ X, X = set4 wf (w.heap.size + 1 + 1) (.complex .f32 x' y') (.complex .f32 u' v') (.float .f32 q) (.float .f32 m) := ⟨_, rfl⟩
  rw [← hX] at E1 E2
  unfold set4 at hX
  go_wp2_with fail
  rw [← hX]
  clear hX kA kZ uZ lZ HAf HZf Bf
  have c1 := E1.out.cells
  exact bodyPost_ret (v := .tuple #[.agg #[.complex .f32 x' y', .complex .f32 u' v', .float .f32 q, .float .f32 m], .bool true]) (by simp [results, Try.results27, go_sem, c1]; try rfl) rfl ⟨rfl, E2.out⟩
end Go.Proofs.Ytdonmboidpppmaa
