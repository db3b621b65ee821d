/- Contracts: the mean speed of two, PairSpeed, MeetSpeeds, BumpSpeeds, by the chains of operations. -/
import Derived.Test.YtegojadabfeokaaBd
import Derived.Test.YtegojadabfeokaaDc
import Derived.Test.YtegojadabfeokaaDe
import Derived.Deep.RegionLaw
namespace Go.Proofs.Ytegojadabfeokaa
open Go.RowKit Go.Sort Ieee
set_option linter.unusedSimpArgs false
set_option linter.unusedVariables false

def pC (x y u v q m : Nat) : Array Value := #[.complex .f32 x y, .complex .f32 u v, .float .f32 q, .float .f32 m]
set_option maxHeartbeats 2000000 in
theorem bBetween {u1 u2 v1 v2 ma mb px py : Nat} (x1 y1 a1 a2 q1 x2 y2 b1 b2 q2 : Nat) (h : BetwW u1 u2 v1 v2 ma mb px py) (w : World) : Calls Try.prog 56 #[.complex .f32 u1 u2, .complex .f32 v1 v2, pAgg x1 y1 a1 a2 q1 ma, pAgg x2 y2 b1 b2 q2 mb] w fun e w' => e = .returned (.complex .f32 px py) ∧ Below w.heap.size w w' := by
  obtain ⟨c1, c2, d1, d2, s1, s2, m, e1, e2, e3, e4, e5, e6, e7, hq⟩ := h
  have SC1 := keep (fun w d os => Calls.regrown_of (toB (zScale u1 u2 ma c1 c2 e1 e2 (grow (redrawn w d) os))))
  have SC2 := keep (fun w d os => Calls.regrown_of (toB (zScale v1 v2 mb d1 d2 e3 e4 (grow (redrawn w d) os))))
  have PL := keep (fun w d os => Calls.regrown_of (toB (bplus c1 c2 d1 d2 s1 s2 e5 e6 (grow (redrawn w d) os))))
  have QU := keep (fun w d os => Calls.regrown_of (toB (bQuot hq (grow (redrawn w d) os))))
  have f1 := zrun e7
  clear e1 e2 e3 e4 e5 e6 e7 hq
  have B0 := keep (((Below.refl w.heap.size w).alloc (Nat.le_refl _) (.cells (pC x1 y1 a1 a2 q1 ma) 27)).alloc (by rw [World.size_alloc]; omega) (.cells (pC x2 y2 b1 b2 q2 mb) 27))
  have S0 := keep ((Has.made w 27 (pC x1 y1 a1 a2 q1 ma)).beside (.cells (pC x2 y2 b1 b2 q2 mb) 27))
  have S1 : Kept (Has ((w.alloc (.cells (pC x1 y1 a1 a2 q1 ma) 27)).alloc (.cells (pC x2 y2 b1 b2 q2 mb) 27)) (w.heap.size + 1) 27 (pC x2 y2 b1 b2 q2 mb)) := keep (by
    have h := Has.made (w.alloc (.cells (pC x1 y1 a1 a2 q1 ma) 27)) 27 (pC x2 y2 b1 b2 q2 mb)
    rwa [World.size_alloc] at h)
  have k3 := cell_regrown (S0.out.cells 3)
  have l3 := cell_regrown (S1.out.cells 3)
  unfold pC pAgg at *
  go_enter Try.func56, Try.ntmps56
  go_wp2_with fail
  generalize (w.alloc (.cells #[.complex .f32 x1 y1, .complex .f32 a1 a2, .float .f32 q1, .float .f32 ma] 27)).alloc (.cells #[.complex .f32 x2 y2, .complex .f32 b1 b2, .float .f32 q2, .float .f32 mb] 27) = W0 at *
  refine wp_region_quiet_below (by as_aux_lemma => kernel_rfl) (by as_aux_lemma => kernel_rfl) ?_
  repeat (any_goals (go_big_quiet_step (first | (with_reducible exact SC1.out _ _ _) | (with_reducible exact SC2.out _ _ _) | (with_reducible exact PL.out _ _ _) | (with_reducible exact QU.out _ _ _))))
  refine wpQuiet_nil ?_
  intro w8 hw8
  obtain ⟨⟨d8, os8⟩, rfl⟩ := hw8
  have hb8 := below_regrown W0 d8 os8
  generalize grow (redrawn W0 d8) os8 = w9 at *
  have B9 := keep (B0.out.trans (hb8.mono B0.out.size))
  clear hb8 k3 l3
  go_wp2_with fail
  go_ret
  exact ⟨rfl, B9.out⟩
set_option maxHeartbeats 1000000 in
theorem bAreTwo {x1 y1 u1 u2 q1 ma x2 y2 v1 v2 q2 mb : Nat} (P : PNm x1 y1 u1 u2 q1 ma) (Q : PNm x2 y2 v1 v2 q2 mb) (w : World) : Calls Try.prog 57 #[pAgg x1 y1 u1 u2 q1 ma, pAgg x2 y2 v1 v2 q2 mb] w fun e w' => e = .returned (.bool true) ∧ Below w.heap.size w w' := by
  have V1 := keep (fun w => P.valid w)
  have V2 := keep (fun w => Q.valid w)
  have B0 := keep (((Below.refl w.heap.size w).alloc (Nat.le_refl _) (.cells (pC x1 y1 u1 u2 q1 ma) 27)).alloc (by rw [World.size_alloc]; omega) (.cells (pC x2 y2 v1 v2 q2 mb) 27))
  have S0 := keep ((Has.made w 27 (pC x1 y1 u1 u2 q1 ma)).beside (.cells (pC x2 y2 v1 v2 q2 mb) 27))
  have S1 : Kept (Has ((w.alloc (.cells (pC x1 y1 u1 u2 q1 ma) 27)).alloc (.cells (pC x2 y2 v1 v2 q2 mb) 27)) (w.heap.size + 1) 27 (pC x2 y2 v1 v2 q2 mb)) := keep (by
    have h := Has.made (w.alloc (.cells (pC x1 y1 u1 u2 q1 ma) 27)) 27 (pC x2 y2 v1 v2 q2 mb)
    rwa [World.size_alloc] at h)
  have k := S0.out.cells
  clear P Q
  unfold pC pAgg at *
  go_enter Try.func57, Try.ntmps57
  go_wp2_with fail
  refine (V1.out _).mono ?_
  rintro e w1 ⟨rfl, hb⟩
  have S2 := keep (S1.out.after hb)
  have B1 := keep (B0.out.trans (hb.mono B0.out.size))
  clear hb S0 S1 B0 k
  have k := S2.out.cells
  go_wp2_with fail
  refine (V2.out _).mono ?_
  rintro e w2 ⟨rfl, hb⟩
  have B2 := keep (B1.out.trans (hb.mono B1.out.size))
  clear hb B1 k
  go_wp2_with fail
  go_ret
  exact ⟨rfl, B2.out⟩
set_option maxHeartbeats 2000000 in
theorem bPair {x1 y1 u1 u2 q1 ma x2 y2 v1 v2 q2 mb px py : Nat} (P : PNm x1 y1 u1 u2 q1 ma) (Q : PNm x2 y2 v1 v2 q2 mb) (h : BetwW u1 u2 v1 v2 ma mb px py) (npx : Nm single px) (npy : Nm single py) (w : World) : Calls Try.prog 29 #[pAgg x1 y1 u1 u2 q1 ma, pAgg x2 y2 v1 v2 q2 mb] w fun e w' => e = .returned (.tuple #[.complex .f32 px py, .bool true]) ∧ Below w.heap.size w w' := by
  have BE := keep (fun w d os => Calls.regrown_of (bBetween x1 y1 u1 u2 q1 x2 y2 v1 v2 q2 h (grow (redrawn w d) os)))
  have TW := keep (fun w d os => Calls.regrown_of (bAreTwo P Q (grow (redrawn w d) os)))
  have FC := keep (fun w d os => Calls.regrown_of (toBN (bfiniteC px py npx npy (grow (redrawn w d) os))))
  have B0 := keep (((Below.refl w.heap.size w).alloc (Nat.le_refl _) (.cells (pC x1 y1 u1 u2 q1 ma) 27)).alloc (by rw [World.size_alloc]; omega) (.cells (pC x2 y2 v1 v2 q2 mb) 27))
  have S0 := keep ((Has.made w 27 (pC x1 y1 u1 u2 q1 ma)).beside (.cells (pC x2 y2 v1 v2 q2 mb) 27))
  have S1 : Kept (Has ((w.alloc (.cells (pC x1 y1 u1 u2 q1 ma) 27)).alloc (.cells (pC x2 y2 v1 v2 q2 mb) 27)) (w.heap.size + 1) 27 (pC x2 y2 v1 v2 q2 mb)) := keep (by
    have h := Has.made (w.alloc (.cells (pC x1 y1 u1 u2 q1 ma) 27)) 27 (pC x2 y2 v1 v2 q2 mb)
    rwa [World.size_alloc] at h)
  have k0 := cell_regrown (S0.out.cells 0)
  have k1 := cell_regrown (S0.out.cells 1)
  have k2 := cell_regrown (S0.out.cells 2)
  have k3 := cell_regrown (S0.out.cells 3)
  have l0 := cell_regrown (S1.out.cells 0)
  have l1 := cell_regrown (S1.out.cells 1)
  have l2 := cell_regrown (S1.out.cells 2)
  have l3 := cell_regrown (S1.out.cells 3)
  clear P Q h npx npy
  unfold pC pAgg at *
  go_enter Try.func29, Try.ntmps29
  go_wp2_with fail
  generalize (w.alloc (.cells #[.complex .f32 x1 y1, .complex .f32 u1 u2, .float .f32 q1, .float .f32 ma] 27)).alloc (.cells #[.complex .f32 x2 y2, .complex .f32 v1 v2, .float .f32 q2, .float .f32 mb] 27) = W0 at *
  refine wp_region_quiet_below (by as_aux_lemma => kernel_rfl) (by as_aux_lemma => kernel_rfl) ?_
  repeat (any_goals (go_big_quiet_step (first | (with_reducible exact BE.out _ _ _) | (with_reducible exact TW.out _ _ _) | (with_reducible exact FC.out _ _ _))))
  refine wpQuiet_nil ?_
  intro w8 hw8
  obtain ⟨⟨d8, os8⟩, rfl⟩ := hw8
  have hb8 := below_regrown W0 d8 os8
  generalize grow (redrawn W0 d8) os8 = w9 at *
  have B9 := keep (B0.out.trans (hb8.mono B0.out.size))
  clear hb8 k0 k1 k2 k3 l0 l1 l2 l3
  go_wp2_with fail
  go_ret2
  exact ⟨rfl, B9.out⟩
end Go.Proofs.Ytegojadabfeokaa
