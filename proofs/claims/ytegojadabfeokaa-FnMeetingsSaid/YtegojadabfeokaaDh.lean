/- Contracts: MomentumOf and SpeedEnergyOf of two particles, by the chains of operations; SameComplex of equal numbers. -/
import Derived.Test.YtegojadabfeokaaDf
import Derived.Test.YtegojadabfeokaaHc
namespace Go.Proofs.Ytegojadabfeokaa
open Go.RowKit Go.Sort Ieee
set_option linter.unusedSimpArgs false
set_option linter.unusedVariables false

def two8 (x1 y1 u1 u2 q1 ma x2 y2 v1 v2 q2 mb : Nat) : Array Value := #[.complex .f32 x1 y1, .complex .f32 u1 u2, .float .f32 q1, .float .f32 ma, .complex .f32 x2 y2, .complex .f32 v1 v2, .float .f32 q2, .float .f32 mb]
theorem own_two {w : World} {g : Nat} {x1 y1 u1 u2 q1 ma x2 y2 v1 v2 q2 mb : Nat} (h : Has w g 27 (two8 x1 y1 u1 u2 q1 ma x2 y2 v1 v2 q2 mb)) : w.ownsRow 0 27 4 (.slice (some ⟨g, 0, none⟩) 2 2) 2 (psCells [⟨x1, y1, u1, u2, q1, ma⟩, ⟨x2, y2, v1, v2, q2, mb⟩]) :=
  ⟨rfl, .inr ⟨g, 2, two8 x1 y1 u1 u2 q1 ma x2 y2 v1 v2 q2 mb, rfl, Nat.zero_le _, h, Nat.le_refl _, by simp [maxLen], rfl, rfl⟩⟩
theorem bAre {w : World} {g : Nat} {x1 y1 u1 u2 q1 ma x2 y2 v1 v2 q2 mb : Nat} (P : PNm x1 y1 u1 u2 q1 ma) (Q : PNm x2 y2 v1 v2 q2 mb) (h : Has w g 27 (two8 x1 y1 u1 u2 q1 ma x2 y2 v1 v2 q2 mb)) : Calls Try.prog 55 #[.slice (some ⟨g, 0, none⟩) 2 2] w fun e w' => e = .returned (.bool true) ∧ Below w.heap.size w w' :=
  AreParticles_ok 0 _ [⟨x1, y1, u1, u2, q1, ma⟩, ⟨x2, y2, v1, v2, q2, mb⟩] w (own_two h) (by
    simp [PD.ok, bvalid P.hx P.hy P.hu P.hv P.hq P.hm P.p, bvalid Q.hx Q.hy Q.hu Q.hv Q.hq Q.hm Q.p]) (by simp)
set_option maxHeartbeats 4000000 in
theorem bMom {w : World} {g : Nat} {x1 y1 u1 u2 q1 ma x2 y2 v1 v2 q2 mb r1 r2 : Nat} (P : PNm x1 y1 u1 u2 q1 ma) (Q : PNm x2 y2 v1 v2 q2 mb) (h : Has w g 27 (two8 x1 y1 u1 u2 q1 ma x2 y2 v1 v2 q2 mb)) (hm : MomW u1 u2 v1 v2 ma mb r1 r2) :
    Calls Try.prog 27 #[.slice (some ⟨g, 0, none⟩) 2 2] w fun e w' => e = .returned (.tuple #[.complex .f32 r1 r2, .bool true]) ∧ Below w.heap.size w w' := by
  obtain ⟨a1, a2, s1, s2, b1, b2, e1, e2, e3, e4, e5, e6, e7, e8⟩ := hm
  have AP := keep (bAre P Q h)
  have H := keep h
  have SC1 := keep (fun w => zScale u1 u2 ma a1 a2 e1 e2 w)
  have PL1 := keep (fun w => bplus 0 0 a1 a2 s1 s2 e3 e4 w)
  have SC2 := keep (fun w => zScale v1 v2 mb b1 b2 e5 e6 w)
  have PL2 := keep (fun w => bplus s1 s2 b1 b2 r1 r2 e7 e8 w)
  clear P Q h e1 e2 e3 e4 e5 e6 e7 e8
  unfold two8 at *
  go_enter Try.func27, Try.ntmps27
  go_wp2_with fail
  refine AP.out.mono ?_
  rintro e w1 ⟨rfl, hb⟩
  have H1 := keep (H.out.after hb)
  have B1 := keep hb
  clear hb AP H
  go_wp2_with fail
  go_loopw [12, 4] (fun s z wr => ∃ i : Nat, i ≤ 2 ∧ s = .int .i64 i ∧ z = (if i = 0 then .complex .f32 0 0 else if i = 1 then .complex .f32 s1 s2 else .complex .f32 r1 r2) ∧ Kept (Has wr g 27 #[.complex .f32 x1 y1, .complex .f32 u1 u2, .float .f32 q1, .float .f32 ma, .complex .f32 x2 y2, .complex .f32 v1 v2, .float .f32 q2, .float .f32 mb]) ∧ Kept (Below w.heap.size w wr)) (fun s _ _ => 2 - (intOf s).toNat)
  case atStart => exact ⟨0, by omega, rfl, rfl, H1, B1⟩
  case round =>
    clear H1 B1
    obtain ⟨i, hi, rfl, rfl, H1, B1⟩ := hrel
    have hc := H1.out.cells
    obtain rfl | rfl | rfl : i = 0 ∨ i = 1 ∨ i = 2 := by omega
    · simp only [if_true]
      go_wp2_with fail
      refine (SC1.out _).mono ?_
      rintro e w' ⟨rfl, hw⟩
      have hw := hw.symm
      subst hw
      go_wp2_with fail
      refine (PL1.out _).mono ?_
      rintro e w' ⟨rfl, hw⟩
      have hw := hw.symm
      subst hw
      go_wp2_with fail
      go_roundw
      case rel => exact ⟨1, by omega, by go_num, rfl, keep (H1.out.beside _), keep (B1.out.alloc B1.out.size _)⟩
      case measure => simp [intOf]
    · simp only [if_true, if_false, Nat.one_ne_zero]
      go_wp2_with fail
      refine (SC2.out _).mono ?_
      rintro e w' ⟨rfl, hw⟩
      have hw := hw.symm
      subst hw
      go_wp2_with fail
      refine (PL2.out _).mono ?_
      rintro e w' ⟨rfl, hw⟩
      have hw := hw.symm
      subst hw
      go_wp2_with fail
      go_roundw
      case rel => exact ⟨2, by omega, by go_num, rfl, keep (H1.out.beside _), keep (B1.out.alloc B1.out.size _)⟩
      case measure => simp [intOf]
    · go_wp2_with fail
      go_ret2
      exact ⟨rfl, B1.out⟩
set_option maxHeartbeats 4000000 in
theorem bEn {w : World} {g : Nat} {x1 y1 u1 u2 q1 ma x2 y2 v1 v2 q2 mb X : Nat} (P : PNm x1 y1 u1 u2 q1 ma) (Q : PNm x2 y2 v1 v2 q2 mb) (h : Has w g 27 (two8 x1 y1 u1 u2 q1 ma x2 y2 v1 v2 q2 mb)) (hm : EnW u1 u2 v1 v2 ma mb X) :
    Calls Try.prog 28 #[.slice (some ⟨g, 0, none⟩) 2 2] w fun e w' => e = .returned (.tuple #[.float .f32 X, .bool true]) ∧ Below w.heap.size w w' := by
  obtain ⟨Ma, Mb, ha, hb, P1, P2, e1, e2, f1, f2, q1', q2', q3, q4, q5, y1', y2', y3, y4, q6, q7⟩ := hm
  have AP := keep (bAre P Q h)
  have H := keep h
  have c1 := zconv32 _ _ q1'
  have c2 := zrun q2'
  have PW1 := keep (fun w d os => Calls.regrown_of (toB (bpow q3 (grow (redrawn w d) os))))
  have c3 := zrun q4
  have c4 := zrun q5
  have d1 := zconv32 _ _ y1'
  have d2 := zrun y2'
  have PW2 := keep (fun w d os => Calls.regrown_of (toB (bpow y3 (grow (redrawn w d) os))))
  have d3 := zrun y4
  have d4 := zrun q6
  have d5 := zconv64 _ _ q7
  clear P Q h q1' q2' q3 q4 q5 y1' y2' y3 y4 q6 q7
  unfold two8 at *
  go_enter Try.func28, Try.ntmps28
  go_wp2_with fail
  refine AP.out.mono ?_
  rintro e w1 ⟨rfl, hbw⟩
  have H1 := keep (H.out.after hbw)
  have B1 := keep hbw
  clear hbw AP H
  go_wp2_with fail
  go_loopw [12, 4] (fun s z wr => ∃ i : Nat, i ≤ 2 ∧ s = .int .i64 i ∧ z = (if i = 0 then .float .f64 0 else if i = 1 then .float .f64 f1 else .float .f64 f2) ∧ Kept (Has wr g 27 #[.complex .f32 x1 y1, .complex .f32 u1 u2, .float .f32 q1, .float .f32 ma, .complex .f32 x2 y2, .complex .f32 v1 v2, .float .f32 q2, .float .f32 mb]) ∧ Kept (Below w.heap.size w wr)) (fun s _ _ => 2 - (intOf s).toNat)
  case atStart => exact ⟨0, by omega, rfl, rfl, H1, B1⟩
  case round =>
    clear H1 B1
    obtain ⟨i, hi, rfl, rfl, H1, B1⟩ := hrel
    have hc := H1.out.cells
    obtain rfl | rfl | rfl : i = 0 ∨ i = 1 ∨ i = 2 := by omega
    · simp only [if_true]
      clear d1 d2 d3 d4 d5 PW2
      have PM := Has.made wr 27 #[.complex .f32 x1 y1, .complex .f32 u1 u2, .float .f32 q1, .float .f32 ma]
      have k1 := cell_regrown (PM.cells 1)
      have k3 := cell_regrown (PM.cells 3)
      have BA := keep (B1.out.alloc B1.out.size (.cells #[.complex .f32 x1 y1, .complex .f32 u1 u2, .float .f32 q1, .float .f32 ma] 27))
      have HA := keep (H1.out.beside (.cells #[.complex .f32 x1 y1, .complex .f32 u1 u2, .float .f32 q1, .float .f32 ma] 27))
      clear PM
      go_wp2_with fail
      clear hc H1 B1
      generalize wr.alloc (.cells #[.complex .f32 x1 y1, .complex .f32 u1 u2, .float .f32 q1, .float .f32 ma] 27) = W at *
      refine wp_region_quiet_below (by as_aux_lemma => kernel_rfl) (by as_aux_lemma => kernel_rfl) ?_
      repeat (any_goals (go_big_quiet_step (first | (with_reducible exact PW1.out _ _ _))))
      refine wpQuiet_nil ?_
      intro w8 hw8
      obtain ⟨⟨d8, os8⟩, rfl⟩ := hw8
      have hb8 := below_regrown W d8 os8
      generalize grow (redrawn W d8) os8 = w8 at *
      have B8 := keep (BA.out.trans (hb8.mono BA.out.size))
      have H8 := keep (HA.out.after hb8)
      clear k1 k3 hb8
      go_wp2_with fail
      go_roundw
      case rel => exact ⟨1, by omega, by go_num, rfl, H8, B8⟩
      case measure => simp [intOf]
    · simp only [if_true, if_false, Nat.one_ne_zero]
      clear c1 c2 c3 c4 d5 PW1
      have PM := Has.made wr 27 #[.complex .f32 x2 y2, .complex .f32 v1 v2, .float .f32 q2, .float .f32 mb]
      have k1 := cell_regrown (PM.cells 1)
      have k3 := cell_regrown (PM.cells 3)
      have BA := keep (B1.out.alloc B1.out.size (.cells #[.complex .f32 x2 y2, .complex .f32 v1 v2, .float .f32 q2, .float .f32 mb] 27))
      have HA := keep (H1.out.beside (.cells #[.complex .f32 x2 y2, .complex .f32 v1 v2, .float .f32 q2, .float .f32 mb] 27))
      clear PM
      go_wp2_with fail
      clear hc H1 B1
      generalize wr.alloc (.cells #[.complex .f32 x2 y2, .complex .f32 v1 v2, .float .f32 q2, .float .f32 mb] 27) = W at *
      refine wp_region_quiet_below (by as_aux_lemma => kernel_rfl) (by as_aux_lemma => kernel_rfl) ?_
      repeat (any_goals (go_big_quiet_step (first | (with_reducible exact PW2.out _ _ _))))
      refine wpQuiet_nil ?_
      intro w8 hw8
      obtain ⟨⟨d8, os8⟩, rfl⟩ := hw8
      have hb8 := below_regrown W d8 os8
      generalize grow (redrawn W d8) os8 = w8 at *
      have B8 := keep (BA.out.trans (hb8.mono BA.out.size))
      have H8 := keep (HA.out.after hb8)
      clear k1 k3 hb8
      go_wp2_with fail
      go_roundw
      case rel => exact ⟨2, by omega, by go_num, rfl, H8, B8⟩
      case measure => simp [intOf]
    · go_wp2_with fail
      go_ret2
      exact ⟨rfl, B1.out⟩
theorem bSameC {x y : Nat} (nx : Nm single x) (ny : Nm single y) (hx : x < 4294967296) (hy : y < 4294967296) (w : World) : Calls Try.prog 30 #[.complex .f32 x y, .complex .f32 x y] w fun e w' => e = .returned (.bool true) ∧ w' = w := by
  have ord : ∀ z, Nm single z → FloatKind.f32.format.order z z = some .eq := fun z n => by
    have o := order_V n n
    rw [show FloatKind.f32.format.order z z = single.order z z from rfl, o, if_neg (by grind), if_pos rfl]
  have S1 := keep (fun w => SameNumber_num x ⟨by omega, ord x nx⟩ w)
  have S2 := keep (fun w => SameNumber_num y ⟨by omega, ord y ny⟩ w)
  clear nx ny hx hy ord
  go_enter Try.func30, Try.ntmps30
  go_wp2_with fail
  refine (S1.out _).mono ?_
  rintro e w' ⟨rfl, hw⟩
  have hw := hw.symm
  subst hw
  go_wp2_with fail
  refine (S2.out _).mono ?_
  rintro e w' ⟨rfl, hw⟩
  have hw := hw.symm
  subst hw
  go_wp2_with fail
  go_ret
  exact ⟨rfl, rfl⟩
end Go.Proofs.Ytegojadabfeokaa
