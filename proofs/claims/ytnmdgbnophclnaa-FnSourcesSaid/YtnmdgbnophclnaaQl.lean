/- Contract: two halves merged. -/
import Derived.Test.YtnmdgbnophclnaaQk
namespace Go.Proofs.Ytnmdgbnophclnaa
open Go.RowKit Go.Sort Ieee
set_option linter.unusedSimpArgs false

theorem GP.half_twice {p : GP} (hp : p.ok) : floatBits .add .f32 (wd single 2 p.q) (wd single 2 p.q) = some (wd single 1 p.q) ∧ floatBits .add .f32 (wd single 3 p.m) (wd single 3 p.m) = some (wd single 2 p.m) := by
  obtain ⟨_, _, _, _, ⟨q0, q1⟩, ⟨m0, m1⟩⟩ := hp
  have a := fadd (k := 2) (a := p.q) (b := p.q) (by omega) (by omega) (by omega) (by omega)
  have b := fadd (k := 3) (a := p.m) (b := p.m) (by omega) (by omega) (by omega) (by omega)
  have ea := wd_up (f := single) fit_single binade_le_single (k := 1) (a := p.q) 1 (by decide) (by show p.q.natAbs < 16777216; omega)
  have eb := wd_up (f := single) fit_single binade_le_single (k := 2) (a := p.m) 1 (by decide) (by show p.m.natAbs < 16777216; omega)
  rw [a, b, ← ea, ← eb]
  refine ⟨?_, ?_⟩
  · congr 2; show p.q + p.q = p.q * 2; omega
  · congr 2; show p.m + p.m = p.m * 2; omega

set_option maxHeartbeats 8000000 in
set_option maxRecDepth 20000 in
theorem Merge_any (a b c d q m q2 m2 : Nat) (e1 : floatBits .add .f32 q q = some q2) (e2 : floatBits .add .f32 m m = some m2)
    (AT : ∀ w, Calls Try.prog 75 #[.agg #[.complex .f32 a b, .complex .f32 c d, .float .f32 q, .float .f32 m], .agg #[.complex .f32 a b, .complex .f32 c d, .float .f32 q, .float .f32 m]] w fun e w' => e = .returned (.bool true) ∧ Below w.heap.size w w')
    (VP : ∀ w, Calls Try.prog 72 #[.agg #[.complex .f32 a b, .complex .f32 c d, .float .f32 q2, .float .f32 m2]] w fun e w' => e = .returned (.bool true) ∧ Below w.heap.size w w')
    (BP : ∀ w, Calls Try.prog 76 #[.complex .f32 a b, .complex .f32 a b, .agg #[.complex .f32 a b, .complex .f32 c d, .float .f32 q, .float .f32 m], .agg #[.complex .f32 a b, .complex .f32 c d, .float .f32 q, .float .f32 m]] w fun e w' => e = .returned (.complex .f32 a b) ∧ ∃ n, w' = ((w.alloc (.cells #[.complex .f32 a b, .complex .f32 c d, .float .f32 q, .float .f32 m] 52)).alloc (.cells #[.complex .f32 a b, .complex .f32 c d, .float .f32 q, .float .f32 m] 52)).drewN n)
    (BS : ∀ w, Calls Try.prog 76 #[.complex .f32 c d, .complex .f32 c d, .agg #[.complex .f32 a b, .complex .f32 c d, .float .f32 q, .float .f32 m], .agg #[.complex .f32 a b, .complex .f32 c d, .float .f32 q, .float .f32 m]] w fun e w' => e = .returned (.complex .f32 c d) ∧ ∃ n, w' = ((w.alloc (.cells #[.complex .f32 a b, .complex .f32 c d, .float .f32 q, .float .f32 m] 52)).alloc (.cells #[.complex .f32 a b, .complex .f32 c d, .float .f32 q, .float .f32 m] 52)).drewN n)
    (w : World) : Calls Try.prog 30 #[.agg #[.complex .f32 a b, .complex .f32 c d, .float .f32 q, .float .f32 m], .agg #[.complex .f32 a b, .complex .f32 c d, .float .f32 q, .float .f32 m]] w fun e w' => e = .returned (.tuple #[.agg #[.complex .f32 a b, .complex .f32 c d, .float .f32 q2, .float .f32 m2], .bool true]) ∧ Below w.heap.size w w' := by
  have f1 := frun e1
  have f2 := frun e2
  have AT := keep AT
  have VP := keep VP
  have BP := keep BP
  have BS := keep BS
  have B0 := keep ((((Below.refl w.heap.size w).alloc (Nat.le_refl _) (.cells #[.complex .f32 a b, .complex .f32 c d, .float .f32 q, .float .f32 m] 52)).alloc (by simp) (.cells #[.complex .f32 a b, .complex .f32 c d, .float .f32 q, .float .f32 m] 52)).alloc (by simp; omega) (.cells #[.complex .f32 0 0, .complex .f32 0 0, .float .f32 0, .float .f32 0] 52))
  have S0 := keep (((Has.made w 52 #[.complex .f32 a b, .complex .f32 c d, .float .f32 q, .float .f32 m]).beside (.cells #[.complex .f32 a b, .complex .f32 c d, .float .f32 q, .float .f32 m] 52)).beside (.cells #[.complex .f32 0 0, .complex .f32 0 0, .float .f32 0, .float .f32 0] 52))
  have S1 := keep ((has_at (w.alloc (.cells #[.complex .f32 a b, .complex .f32 c d, .float .f32 q, .float .f32 m] 52)) 52 #[.complex .f32 a b, .complex .f32 c d, .float .f32 q, .float .f32 m] (w.heap.size + 1) (by simp)).beside (.cells #[.complex .f32 0 0, .complex .f32 0 0, .float .f32 0, .float .f32 0] 52))
  have Z0 := keep (has_at ((w.alloc (.cells #[.complex .f32 a b, .complex .f32 c d, .float .f32 q, .float .f32 m] 52)).alloc (.cells #[.complex .f32 a b, .complex .f32 c d, .float .f32 q, .float .f32 m] 52)) 52 #[.complex .f32 0 0, .complex .f32 0 0, .float .f32 0, .float .f32 0] (w.heap.size + 2) (by simp))
  clear e1 e2
  go_enter Try.func30, Try.ntmps30
  go_wp2_with fail
  refine (AT.out _).mono ?_
  rintro e w1 ⟨rfl, hb⟩
  have S2 := keep (S0.out.after hb)
  have T2 := keep (S1.out.after hb)
  have Z2 := keep (Z0.out.after hb)
  have B2 := keep (B0.out.trans (hb.mono B0.out.size))
  have lS := S2.out.in_heap
  have lT := T2.out.in_heap
  have lZ := Z2.out.in_heap
  clear hb AT S0 S1 B0 Z0
  go_wp2_with fail
  have k0 := S2.out.cells 0
  have k1 := S2.out.cells 1
  have k2 := S2.out.cells 2
  have k3 := S2.out.cells 3
  have t0 := T2.out.cells 0
  have t1 := T2.out.cells 1
  have t2 := T2.out.cells 2
  have t3 := T2.out.cells 3
  have bp := BP.out
  have bs := BS.out
  have SOF := keep (fun (wz : World) (hB : Below w1.heap.size w1 wz) => (⟨(hB.cell (p := ⟨w.heap.size, 0, none⟩) lS).trans k0, (hB.cell (p := ⟨w.heap.size, 1, none⟩) lS).trans k1, (hB.cell (p := ⟨w.heap.size, 2, none⟩) lS).trans k2, (hB.cell (p := ⟨w.heap.size, 3, none⟩) lS).trans k3, (hB.cell (p := ⟨w.heap.size + 1, 0, none⟩) lT).trans t0, (hB.cell (p := ⟨w.heap.size + 1, 1, none⟩) lT).trans t1, (hB.cell (p := ⟨w.heap.size + 1, 2, none⟩) lT).trans t2, (hB.cell (p := ⟨w.heap.size + 1, 3, none⟩) lT).trans t3, hB⟩ : wz.cell? ⟨w.heap.size, 0, none⟩ = some (.complex .f32 a b) ∧ wz.cell? ⟨w.heap.size, 1, none⟩ = some (.complex .f32 c d) ∧ wz.cell? ⟨w.heap.size, 2, none⟩ = some (.float .f32 q) ∧ wz.cell? ⟨w.heap.size, 3, none⟩ = some (.float .f32 m) ∧ wz.cell? ⟨w.heap.size + 1, 0, none⟩ = some (.complex .f32 a b) ∧ wz.cell? ⟨w.heap.size + 1, 1, none⟩ = some (.complex .f32 c d) ∧ wz.cell? ⟨w.heap.size + 1, 2, none⟩ = some (.float .f32 q) ∧ wz.cell? ⟨w.heap.size + 1, 3, none⟩ = some (.float .f32 m) ∧ Below w1.heap.size w1 wz))
  have GOS := keep (fun (wz : World) (hS : wz.cell? ⟨w.heap.size, 0, none⟩ = some (.complex .f32 a b) ∧ wz.cell? ⟨w.heap.size, 1, none⟩ = some (.complex .f32 c d) ∧ wz.cell? ⟨w.heap.size, 2, none⟩ = some (.float .f32 q) ∧ wz.cell? ⟨w.heap.size, 3, none⟩ = some (.float .f32 m) ∧ wz.cell? ⟨w.heap.size + 1, 0, none⟩ = some (.complex .f32 a b) ∧ wz.cell? ⟨w.heap.size + 1, 1, none⟩ = some (.complex .f32 c d) ∧ wz.cell? ⟨w.heap.size + 1, 2, none⟩ = some (.float .f32 q) ∧ wz.cell? ⟨w.heap.size + 1, 3, none⟩ = some (.float .f32 m) ∧ Below w1.heap.size w1 wz) => hS.2.2.2.2.2.2.2.2)
  go_cut [6] (fun s6 wx => ∃ g : Nat, s6 = .pointer (some ⟨g, 0, none⟩) ∧ w1.heap.size ≤ g ∧ Has wx g 52 #[.complex .f32 a b, .complex .f32 c d, .float .f32 q2, .float .f32 m2] ∧ Below w1.heap.size w1 wx)
  case first =>
    clear VP Z2 lZ B2
    go_region_held (fun wx => wx.cell? ⟨w.heap.size, 0, none⟩ = some (.complex .f32 a b) ∧ wx.cell? ⟨w.heap.size, 1, none⟩ = some (.complex .f32 c d) ∧ wx.cell? ⟨w.heap.size, 2, none⟩ = some (.float .f32 q) ∧ wx.cell? ⟨w.heap.size, 3, none⟩ = some (.float .f32 m) ∧ wx.cell? ⟨w.heap.size + 1, 0, none⟩ = some (.complex .f32 a b) ∧ wx.cell? ⟨w.heap.size + 1, 1, none⟩ = some (.complex .f32 c d) ∧ wx.cell? ⟨w.heap.size + 1, 2, none⟩ = some (.float .f32 q) ∧ wx.cell? ⟨w.heap.size + 1, 3, none⟩ = some (.float .f32 m) ∧ Below w1.heap.size w1 wx)
      (first
        | (with_reducible exact SOF.out _ (Below.trans (GOS.out _ (by assumption)) (Below.mono (by assumption) (GOS.out _ (by assumption)).size)))
        | (refine SOF.out _ ?_; repeat' (first | (with_reducible assumption) | (with_reducible exact Below.refl _ _) | (with_reducible exact GOS.out _ (by assumption)) | (with_reducible exact (GOS.out _ (by assumption)).size) | (with_reducible refine Below.drewN_of ?_ _) | (with_reducible refine Below.drew ?_) | (with_reducible refine Below.alloc ?_ ?_ _) | (with_reducible refine Below.setCell ?_ ?_ _) | (simp; done) | (simp; omega))))
      (first
        | ((with_reducible refine (bp _).mono ?_); rintro e w3 ⟨rfl, m3, rfl⟩)
        | ((with_reducible refine (bs _).mono ?_); rintro e w4 ⟨rfl, m4, rfl⟩))
    all_goals
      have HB := keep (GOS.out _ (by assumption))
      clear SOF GOS BP BS bp bs k0 k1 k2 k3 t0 t1 t2 t3 S2 T2 lS lT f1 f2
      go_wp2_with fail
      go_meet
      refine ⟨_, rfl, ?_, ?_, ?_⟩
      · first | (with_reducible exact HB.out.size) | (simp; done) | (simp; omega) | exact HB.out.size | (have := HB.out.size; simp at this ⊢; omega)
      · repeat' (first | (with_reducible refine has_at _ _ _ _ (by simp)) | (with_reducible refine Has.draws ?_ _) | (with_reducible refine Has.beside ?_ _))
      · repeat' (first | (with_reducible assumption) | (with_reducible exact HB.out) | (with_reducible exact HB.out.size) | (with_reducible exact Below.refl _ _) | (with_reducible refine Below.drewN_of ?_ _) | (with_reducible refine Below.drew ?_) | (with_reducible refine Below.alloc ?_ ?_ _) | (with_reducible refine Below.setCell ?_ ?_ _) | (simp; done) | (simp; omega))
  case rest =>
    obtain ⟨g, rfl, hg, hh, hw⟩ := hcut
    have Z3 := keep (Z2.out.after hw)
    have B3 := keep (B2.out.trans (hw.mono B2.out.size))
    have H3 := keep hh
    have c0 := H3.out.cells 0
    have c1 := H3.out.cells 1
    have c2 := H3.out.cells 2
    have c3 := H3.out.cells 3
    clear hh hw k0 k1 k2 k3 t0 t1 t2 t3 bp bs BP BS SOF GOS S2 T2 lS lT Z2 B2 f1 f2
    go_wp2_with fail
    refine (VP.out _).mono ?_
    rintro e w5 ⟨rfl, hb⟩
    have Z5 := Z3.out.after hb
    have H5 := H3.out.after hb
    have B5 := keep (B3.out.trans (hb.mono B3.out.size))
    have d0 := H5.cells 0
    have d1 := H5.cells 1
    have d2 := H5.cells 2
    have d3 := H5.cells 3
    have u0 := Z5.free 0
    have u1 := Z5.free 1
    have u2 := Z5.free 2
    have u3 := Z5.free 3
    have lZ5 := Z5.in_heap
    have Q := keep ((((Z5.written 0 (.complex .f32 a b)).written 1 (.complex .f32 c d)).written 2 (.float .f32 q2)).written 3 (.float .f32 m2))
    have BB := keep ((((B5.out.setCell (p := ⟨w.heap.size + 2, 0, none⟩) (by show w.heap.size ≤ w.heap.size + 2; omega) (.complex .f32 a b)).setCell (p := ⟨w.heap.size + 2, 1, none⟩) (by show w.heap.size ≤ w.heap.size + 2; omega) (.complex .f32 c d)).setCell (p := ⟨w.heap.size + 2, 2, none⟩) (by show w.heap.size ≤ w.heap.size + 2; omega) (.float .f32 q2)).setCell (p := ⟨w.heap.size + 2, 3, none⟩) (by show w.heap.size ≤ w.heap.size + 2; omega) (.float .f32 m2))
    have zc := Z5.cells
    clear hb c0 c1 c2 c3 Z3 H3 B3 B5 VP
    go_wp2_with fail
    have qc := Q.out.cells
    exact bodyPost_ret (v := .tuple #[.agg #[.complex .f32 a b, .complex .f32 c d, .float .f32 q2, .float .f32 m2], .bool true]) (by simp [results, Try.results30, go_sem, qc]) rfl ⟨rfl, BB.out⟩

theorem MergeParticles_ok (p : GP) (hp : p.ok) (w : World) : Calls Try.prog 30 #[p.halfD.agg, p.halfD.agg] w fun e w' => e = .returned (.tuple #[p.agg, .bool true]) ∧ Below w.heap.size w w' := by
  obtain ⟨e1, e2⟩ := GP.half_twice hp
  obtain ⟨⟨x0, x1⟩, ⟨y0, y1⟩, ⟨u0, u1⟩, ⟨v0, v1⟩, _, _⟩ := id hp
  exact Merge_any _ _ _ _ _ _ _ _ e1 e2 (fun w => areTwo_half p hp w) (fun w => GP.valid hp w) (fun w => between_w p hp p.x p.y (by omega) (by omega) (by omega) (by omega) w) (fun w => between_w p hp p.u p.v (by omega) (by omega) (by omega) (by omega) w) w
end Go.Proofs.Ytnmdgbnophclnaa
