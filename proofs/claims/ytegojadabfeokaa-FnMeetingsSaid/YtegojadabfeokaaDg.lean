/- Contracts: MeetSpeeds and BumpSpeeds, by the chains of operations. -/
import Derived.Test.YtegojadabfeokaaDf
namespace Go.Proofs.Ytegojadabfeokaa
open Go.RowKit Go.Sort Ieee
set_option linter.unusedSimpArgs false
set_option linter.unusedVariables false

/-- Four blocks made one after another. -/
theorem four_made (w : World) (t : TypeId) (A B C D : Array Value) : ∃ W0, W0 = (((w.alloc (.cells A t)).alloc (.cells B t)).alloc (.cells C t)).alloc (.cells D t) ∧ Has W0 w.heap.size t A ∧ Has W0 (w.heap.size + 1) t B ∧ Has W0 (w.heap.size + 1 + 1) t C ∧ Has W0 (w.heap.size + 1 + 1 + 1) t D ∧ Below w.heap.size w W0 := by
  refine ⟨_, rfl, ?_, ?_, ?_, ?_, ?_⟩
  · exact (((Has.made w t A).beside (.cells B t)).beside (.cells C t)).beside (.cells D t)
  · have h := Has.made (w.alloc (.cells A t)) t B
    rw [World.size_alloc] at h
    exact (h.beside (.cells C t)).beside (.cells D t)
  · have h := Has.made ((w.alloc (.cells A t)).alloc (.cells B t)) t C
    rw [World.size_alloc, World.size_alloc] at h
    exact h.beside (.cells D t)
  · have h := Has.made (((w.alloc (.cells A t)).alloc (.cells B t)).alloc (.cells C t)) t D
    rw [World.size_alloc, World.size_alloc, World.size_alloc] at h
    exact h
  · exact ((((Below.refl w.heap.size w).alloc (Nat.le_refl _) _).alloc (by rw [World.size_alloc]; omega) _).alloc (by rw [World.size_alloc, World.size_alloc]; omega) _).alloc (by rw [World.size_alloc, World.size_alloc, World.size_alloc]; omega) _

/-- A particle's four cells written anew. -/
def set4 (w : World) (g : Nat) (a b c d : Value) : World := (((w.setCell ⟨g, 0, none⟩ a).setCell ⟨g, 1, none⟩ b).setCell ⟨g, 2, none⟩ c).setCell ⟨g, 3, none⟩ d
theorem set4_has {w : World} {g : Nat} {t : TypeId} {z0 z1 z2 z3 : Value} (h : Has w g t #[z0, z1, z2, z3]) (a b c d : Value) : Has (set4 w g a b c d) g t #[a, b, c, d] := (((h.written 0 a).written 1 b).written 2 c).written 3 d
theorem set4_else {w : World} {g g' : Nat} {t : TypeId} {cs : Array Value} (h : Has w g t cs) (ne : g ≠ g') (a b c d : Value) : Has (set4 w g' a b c d) g t cs := (((h.elsewhere (p := ⟨g', 0, none⟩) ne a).elsewhere (p := ⟨g', 1, none⟩) ne b).elsewhere (p := ⟨g', 2, none⟩) ne c).elsewhere (p := ⟨g', 3, none⟩) ne d
theorem set4_below {w0 w : World} {B g : Nat} (h : Below B w0 w) (hg : B ≤ g) (a b c d : Value) : Below B w0 (set4 w g a b c d) := (((h.setCell (p := ⟨g, 0, none⟩) hg a).setCell (p := ⟨g, 1, none⟩) hg b).setCell (p := ⟨g, 2, none⟩) hg c).setCell (p := ⟨g, 3, none⟩) hg d
set_option maxHeartbeats 8000000 in
set_option maxRecDepth 20000 in
theorem bMeet {x1 y1 u1 u2 q1 ma x2 y2 v1 v2 q2 mb px py tn T c s o1 o2 t1 t2 : Nat} (P : PNm x1 y1 u1 u2 q1 ma) (Q : PNm x2 y2 v1 v2 q2 mb) (h : BetwW u1 u2 v1 v2 ma mb px py) (npx : Nm single px) (npy : Nm single py) (ntn : Nm single tn) (hT : floatToFloatBits .f32 tn .f64 = some T) (hph : ∀ w, Calls Try.prog 54 #[.float .f64 T] w fun e w' => e = .returned (.complex .f32 c s) ∧ ∃ m, w' = w.drewN m) (hm : MeetW u1 u2 v1 v2 ma mb c s px py o1 o2 t1 t2) (no : Nm single o1 ∧ Nm single o2 ∧ Nm single t1 ∧ Nm single t2) (w : World) :
    Calls Try.prog 25 #[pAgg x1 y1 u1 u2 q1 ma, pAgg x2 y2 v1 v2 q2 mb, .float .f32 tn] w fun e w' => e = .returned (.tuple #[pAgg x1 y1 o1 o2 q1 ma, pAgg x2 y2 t1 t2 q2 mb, .bool true]) ∧ Below w.heap.size w w' := by
  obtain ⟨d1, d2, r1, r2, m, k1, k2, z1, z2, z3, z4, e1, e2, eM, e3, e4, e5, e6, e7, e8', e9, e10, e11, e12, e13⟩ := hm
  have PR := keep (fun w => bPair P Q h npx npy w)
  have IF := keep (fun w => toBN (bIsF tn ntn w))
  have LE := keep (fun w => bless u1 u2 v1 v2 d1 d2 e1 e2 w)
  have f1 := zconv32 _ _ hT
  have PH := keep (fun w => toBN (hph w))
  have MU := keep (fun w => bMul eM w)
  have f2 := zrun e3
  have f3 := zrun e4
  have f4 := zrun e5
  have SC1 := keep (fun w d os => Calls.regrown_of (toB (zScale r1 r2 k1 z1 z2 e6 e7 (grow (redrawn w d) os))))
  have PL := keep (fun w d os => Calls.regrown_of (toB (bplus px py z1 z2 o1 o2 e8' e9 (grow (redrawn w d) os))))
  have SC2 := keep (fun w d os => Calls.regrown_of (toB (zScale r1 r2 k2 z3 z4 e10 e11 (grow (redrawn w d) os))))
  have LS := keep (fun w d os => Calls.regrown_of (toB (bless px py z3 z4 t1 t2 e12 e13 (grow (redrawn w d) os))))
  have I1 := keep (fun w => toBN (bIsC o1 o2 no.1 no.2.1 w))
  have I2 := keep (fun w => toBN (bIsC t1 t2 no.2.2.1 no.2.2.2 w))
  clear e1 e2 eM e3 e4 e5 e6 e7 e8' e9 e10 e11 e12 e13 hT hph P Q h npx npy ntn no
  obtain ⟨W0, eW, HA, HB, HC, HD, BW⟩ := four_made w 27 (pC x1 y1 u1 u2 q1 ma) (pC x2 y2 v1 v2 q2 mb) (pC 0 0 0 0 0 0) (pC 0 0 0 0 0 0)
  have HA := keep HA
  have HB := keep HB
  have HC := keep HC
  have HD := keep HD
  have BW := keep BW
  have EW := keep eW
  clear eW
  have kA := HA.out.cells
  have kB := HB.out.cells
  unfold pC pAgg at *
  go_enter Try.func25, Try.ntmps25
  go_wp2_with fail
  rw [← EW.out]
  clear EW
  refine (PR.out _).mono ?_
  rintro e w1 ⟨rfl, hb⟩
  have HA1 := keep (HA.out.after hb)
  have HB1 := keep (HB.out.after hb)
  have HC1 := keep (HC.out.after hb)
  have HD1 := keep (HD.out.after hb)
  have BW1 := keep (BW.out.trans (hb.mono BW.out.size))
  clear hb HA HB HC HD BW kA kB
  have kA := HA1.out.cells
  have kB := HB1.out.cells
  go_wp2_with fail
  refine (IF.out _).mono ?_
  rintro e w2 ⟨rfl, hb⟩
  have HA2 := keep (HA1.out.after hb)
  have HB2 := keep (HB1.out.after hb)
  have HC2 := keep (HC1.out.after hb)
  have HD2 := keep (HD1.out.after hb)
  have BW2 := keep (BW1.out.trans (hb.mono BW1.out.size))
  clear hb HA1 HB1 HC1 HD1 BW1 kA kB
  have kA := HA2.out.cells
  have kB := HB2.out.cells
  go_wp2_with fail
  refine (LE.out _).mono ?_
  rintro e w' ⟨rfl, hw⟩
  have hw := hw.symm
  subst hw
  go_wp2_with fail
  refine (PH.out _).mono ?_
  rintro e w3 ⟨rfl, hb⟩
  have HA3 := keep (HA2.out.after hb)
  have HB3 := keep (HB2.out.after hb)
  have HC3 := keep (HC2.out.after hb)
  have HD3 := keep (HD2.out.after hb)
  have BW3 := keep (BW2.out.trans (hb.mono BW2.out.size))
  clear hb HA2 HB2 HC2 HD2 BW2 kA kB
  have kA := HA3.out.cells
  have kB := HB3.out.cells
  go_wp2_with fail
  refine (MU.out _).mono ?_
  rintro e w' ⟨rfl, hw⟩
  have hw := hw.symm
  subst hw
  have k3 := cell_regrown (HA3.out.cells 3)
  have l3 := cell_regrown (HB3.out.cells 3)
  go_wp2_with fail
  clear kA kB
  refine wp_region_quiet_below (by as_aux_lemma => kernel_rfl) (by as_aux_lemma => kernel_rfl) ?_
  repeat (any_goals (go_big_quiet_step (first | (with_reducible exact SC1.out _ _ _) | (with_reducible exact SC2.out _ _ _) | (with_reducible exact PL.out _ _ _) | (with_reducible exact LS.out _ _ _))))
  refine wpQuiet_nil ?_
  intro w8 hw8
  obtain ⟨⟨d8, os8⟩, rfl⟩ := hw8
  have hb := below_regrown w3 d8 os8
  generalize grow (redrawn w3 d8) os8 = w4 at *
  have kA := k3
  have kB := l3
  have HA4 := keep (HA3.out.after hb)
  have HB4 := keep (HB3.out.after hb)
  have HC4 := keep (HC3.out.after hb)
  have HD4 := keep (HD3.out.after hb)
  have BW4 := keep (BW3.out.trans (hb.mono BW3.out.size))
  clear hb HA3 HB3 HC3 HD3 BW3 kA kB
  have kA := HA4.out.cells
  have kB := HB4.out.cells
  clear k3 l3
  go_wp2_with fail
  refine (I1.out _).mono ?_
  rintro e w5 ⟨rfl, hb⟩
  have HA5 := keep (HA4.out.after hb)
  have HB5 := keep (HB4.out.after hb)
  have HC5 := keep (HC4.out.after hb)
  have HD5 := keep (HD4.out.after hb)
  have BW5 := keep (BW4.out.trans (hb.mono BW4.out.size))
  clear hb HA4 HB4 HC4 HD4 BW4 kA kB
  have kA := HA5.out.cells
  have kB := HB5.out.cells
  go_wp2_with fail
  refine (I2.out _).mono ?_
  rintro e w6 ⟨rfl, hb⟩
  have HA6 := keep (HA5.out.after hb)
  have HB6 := keep (HB5.out.after hb)
  have HC6 := keep (HC5.out.after hb)
  have HD6 := keep (HD5.out.after hb)
  have BW6 := keep (BW5.out.trans (hb.mono BW5.out.size))
  clear hb HA5 HB5 HC5 HD5 BW5 kA kB
  have kA := HA6.out.cells
  have kB := HB6.out.cells
  have uA := HA6.out.free
  have uB := HB6.out.free
  have lA := HA6.out.in_heap
  have lB := HB6.out.in_heap
  have HA7 : Kept (Has ((w6.setCell ⟨w.heap.size, 1, none⟩ (.complex .f32 o1 o2)).setCell ⟨w.heap.size + 1, 1, none⟩ (.complex .f32 t1 t2)) w.heap.size 27 #[.complex .f32 x1 y1, .complex .f32 o1 o2, .float .f32 q1, .float .f32 ma]) := keep ((HA6.out.written 1 (.complex .f32 o1 o2)).elsewhere (by show w.heap.size ≠ w.heap.size + 1; omega) _)
  have HB7 : Kept (Has ((w6.setCell ⟨w.heap.size, 1, none⟩ (.complex .f32 o1 o2)).setCell ⟨w.heap.size + 1, 1, none⟩ (.complex .f32 t1 t2)) (w.heap.size + 1) 27 #[.complex .f32 x2 y2, .complex .f32 t1 t2, .float .f32 q2, .float .f32 mb]) := keep ((HB6.out.elsewhere (p := ⟨w.heap.size, 1, none⟩) (by show w.heap.size + 1 ≠ w.heap.size; omega) (.complex .f32 o1 o2)).written 1 (.complex .f32 t1 t2))
  have HC7 := keep ((HC6.out.elsewhere (p := ⟨w.heap.size, 1, none⟩) (by show w.heap.size + 1 + 1 ≠ w.heap.size; omega) (.complex .f32 o1 o2)).elsewhere (p := ⟨w.heap.size + 1, 1, none⟩) (by show w.heap.size + 1 + 1 ≠ w.heap.size + 1; omega) (.complex .f32 t1 t2))
  have HD7 := keep ((HD6.out.elsewhere (p := ⟨w.heap.size, 1, none⟩) (by show w.heap.size + 1 + 1 + 1 ≠ w.heap.size; omega) (.complex .f32 o1 o2)).elsewhere (p := ⟨w.heap.size + 1, 1, none⟩) (by show w.heap.size + 1 + 1 + 1 ≠ w.heap.size + 1; omega) (.complex .f32 t1 t2))
  have BW7 := keep ((BW6.out.setCell (p := ⟨w.heap.size, 1, none⟩) (Nat.le_refl _) (.complex .f32 o1 o2)).setCell (p := ⟨w.heap.size + 1, 1, none⟩) (by show w.heap.size ≤ w.heap.size + 1; omega) (.complex .f32 t1 t2))
  go_wp2_with fail
  clear HA6 HB6 HC6 HD6 BW6 kA kB uA uB lA lB PR IF LE PH MU SC1 SC2 PL LS I1 I2 f1 f2 f3 f4
  generalize (w6.setCell ⟨w.heap.size, 1, none⟩ (.complex .f32 o1 o2)).setCell ⟨w.heap.size + 1, 1, none⟩ (.complex .f32 t1 t2) = w7 at *
  have kA := HA7.out.cells
  have kB := HB7.out.cells
  have kC := HC7.out.cells
  have kD := HD7.out.cells
  have uC := HC7.out.free
  have uD := HD7.out.free
  have lC := HC7.out.in_heap
  have lD := HD7.out.in_heap
  have E1 := keep (set4_else (set4_has HC7.out (.complex .f32 x1 y1) (.complex .f32 o1 o2) (.float .f32 q1) (.float .f32 ma)) (g' := w.heap.size + 1 + 1 + 1) (by omega) (.complex .f32 x2 y2) (.complex .f32 t1 t2) (.float .f32 q2) (.float .f32 mb))
  have E2 := keep (set4_has (set4_else HD7.out (g' := w.heap.size + 1 + 1) (by omega) (.complex .f32 x1 y1) (.complex .f32 o1 o2) (.float .f32 q1) (.float .f32 ma)) (.complex .f32 x2 y2) (.complex .f32 t1 t2) (.float .f32 q2) (.float .f32 mb))
  have E3 := keep (set4_below (set4_below BW7.out (g := w.heap.size + 1 + 1) (by omega) (.complex .f32 x1 y1) (.complex .f32 o1 o2) (.float .f32 q1) (.float .f32 ma)) (g := w.heap.size + 1 + 1 + 1) (by omega) (.complex .f32 x2 y2) (.complex .f32 t1 t2) (.float .f32 q2) (.float .f32 mb))
  obtain ⟨X, hX⟩ : ∃ X, X = set4 (set4 w7 (w.heap.size + 1 + 1) (.complex .f32 x1 y1) (.complex .f32 o1 o2) (.float .f32 q1) (.float .f32 ma)) (w.heap.size + 1 + 1 + 1) (.complex .f32 x2 y2) (.complex .f32 t1 t2) (.float .f32 q2) (.float .f32 mb) := ⟨_, rfl⟩
  rw [← hX] at E1 E2 E3
  unfold set4 at hX
  go_region_law (fail)
  all_goals
    rw [← hX]
    clear hX kA kB kC kD uC uD lC lD HA7 HB7 HC7 HD7
    have c1 := E1.out.cells
    have c2 := E2.out.cells
    go_wp2_with fail
    exact bodyPost_ret (v := .tuple #[.agg #[.complex .f32 x1 y1, .complex .f32 o1 o2, .float .f32 q1, .float .f32 ma], .agg #[.complex .f32 x2 y2, .complex .f32 t1 t2, .float .f32 q2, .float .f32 mb], .bool true]) (by simp [results, Try.results25, go_sem, c1, c2]; try rfl) rfl ⟨rfl, Below.drew E3.out⟩

set_option maxHeartbeats 8000000 in
set_option maxRecDepth 20000 in
theorem bBump {x1 y1 u1 u2 q1 ma x2 y2 v1 v2 q2 mb px py c s o1 o2 t1 t2 : Nat} (P : PNm x1 y1 u1 u2 q1 ma) (Q : PNm x2 y2 v1 v2 q2 mb) (h : BetwW u1 u2 v1 v2 ma mb px py) (npx : Nm single px) (npy : Nm single py) (hph : ∀ w, Calls Try.prog 54 #[.float .f64 4602678819172646912] w fun e w' => e = .returned (.complex .f32 c s) ∧ ∃ m, w' = w.drewN m) (hm : MeetW u1 u2 v1 v2 ma mb c s px py o1 o2 t1 t2) (no : Nm single o1 ∧ Nm single o2 ∧ Nm single t1 ∧ Nm single t2) (w : World) :
    Calls Try.prog 26 #[pAgg x1 y1 u1 u2 q1 ma, pAgg x2 y2 v1 v2 q2 mb] w fun e w' => e = .returned (.tuple #[pAgg x1 y1 o1 o2 q1 ma, pAgg x2 y2 t1 t2 q2 mb, .bool true]) ∧ Below w.heap.size w w' := by
  have ME := keep (fun w => bMeet P Q h npx npy (tn := 1056964608) ⟨false, 8388608, -24, by decide +kernel⟩ (by decide +kernel) hph hm no w)
  clear P Q h npx npy hph hm no
  obtain ⟨W0, eW, HA, HB, HC, HD, BW⟩ := four_made w 27 (pC x1 y1 u1 u2 q1 ma) (pC x2 y2 v1 v2 q2 mb) (pC 0 0 0 0 0 0) (pC 0 0 0 0 0 0)
  have HC := keep HC
  have HD := keep HD
  have BW := keep BW
  have EW := keep eW
  clear eW HA HB
  unfold pC pAgg at *
  go_enter Try.func26, Try.ntmps26
  go_wp2_with fail
  rw [← EW.out]
  clear EW
  refine (ME.out _).mono ?_
  rintro e w7 ⟨rfl, hb⟩
  have HC7 := keep (HC.out.after hb)
  have HD7 := keep (HD.out.after hb)
  have BW7 := keep (BW.out.trans (hb.mono BW.out.size))
  clear hb HC HD BW ME
  have kC := HC7.out.cells
  have kD := HD7.out.cells
  have uC := HC7.out.free
  have uD := HD7.out.free
  have lC := HC7.out.in_heap
  have lD := HD7.out.in_heap
  have E1 := keep (set4_else (set4_has HC7.out (.complex .f32 x1 y1) (.complex .f32 o1 o2) (.float .f32 q1) (.float .f32 ma)) (g' := w.heap.size + 1 + 1 + 1) (by omega) (.complex .f32 x2 y2) (.complex .f32 t1 t2) (.float .f32 q2) (.float .f32 mb))
  have E2 := keep (set4_has (set4_else HD7.out (g' := w.heap.size + 1 + 1) (by omega) (.complex .f32 x1 y1) (.complex .f32 o1 o2) (.float .f32 q1) (.float .f32 ma)) (.complex .f32 x2 y2) (.complex .f32 t1 t2) (.float .f32 q2) (.float .f32 mb))
  have E3 := keep (set4_below (set4_below BW7.out (g := w.heap.size + 1 + 1) (by omega) (.complex .f32 x1 y1) (.complex .f32 o1 o2) (.float .f32 q1) (.float .f32 ma)) (g := w.heap.size + 1 + 1 + 1) (by omega) (.complex .f32 x2 y2) (.complex .f32 t1 t2) (.float .f32 q2) (.float .f32 mb))
  obtain ⟨X, hX⟩ : ∃ X, X = set4 (set4 w7 (w.heap.size + 1 + 1) (.complex .f32 x1 y1) (.complex .f32 o1 o2) (.float .f32 q1) (.float .f32 ma)) (w.heap.size + 1 + 1 + 1) (.complex .f32 x2 y2) (.complex .f32 t1 t2) (.float .f32 q2) (.float .f32 mb) := ⟨_, rfl⟩
  rw [← hX] at E1 E2 E3
  unfold set4 at hX
  have HX := keep hX
  clear hX
  go_wp2_with fail
  rw [← HX.out]
  clear HX kC kD uC uD lC lD HC7 HD7
  have c1 := E1.out.cells
  have c2 := E2.out.cells
  exact bodyPost_ret (v := .tuple #[.agg #[.complex .f32 x1 y1, .complex .f32 o1 o2, .float .f32 q1, .float .f32 ma], .agg #[.complex .f32 x2 y2, .complex .f32 t1 t2, .float .f32 q2, .float .f32 mb], .bool true]) (by simp [results, Try.results26, go_sem, c1, c2]; try rfl) rfl ⟨rfl, E3.out⟩
end Go.Proofs.Ytegojadabfeokaa
