/- Contract: PhasorOf at eighths of a turn: a number of length 1, nearly; at a half it is -1. -/
import Derived.Test.YtegojadabfeokaaDd
namespace Go.Proofs.Ytegojadabfeokaa
open Go.RowKit Go.Sort Ieee
set_option linter.unusedSimpArgs false
set_option linter.unusedVariables false

/-- The parts at q quarters and b eighths. -/
def phC (q b : Nat) : Nat := (floatToFloatBits .f64 (if q = 0 then sR (2 - b : Nat) else if q = 1 then fop .sub .f64 0 (sR b) else if q = 2 then fop .sub .f64 0 (sR (2 - b : Nat)) else sR b) .f32).getD 0
def phS (q b : Nat) : Nat := (floatToFloatBits .f64 (if q = 0 then sR b else if q = 1 then sR (2 - b : Nat) else if q = 2 then fop .sub .f64 0 (sR b) else fop .sub .f64 0 (sR (2 - b : Nat))) .f32).getD 0
theorem ph_words : ∀ b : Fin 2, (decide (floatToFloatBits .f64 (sR (2 - b.val : Nat)) .f32 = some (phC 0 b.val)) && (decide (floatToFloatBits .f64 (sR b.val) .f32 = some (phS 0 b.val)) && (decide (floatBits .sub .f64 0 (sR b.val) = some (fop .sub .f64 0 (sR b.val))) && (decide (floatBits .sub .f64 0 (sR (2 - b.val : Nat)) = some (fop .sub .f64 0 (sR (2 - b.val : Nat)))) && (decide (floatToFloatBits .f64 (fop .sub .f64 0 (sR b.val)) .f32 = some (phC 1 b.val)) && decide (floatToFloatBits .f64 (fop .sub .f64 0 (sR (2 - b.val : Nat))) .f32 = some (phC 2 b.val))))))) = true := by decide +kernel
theorem ph_same : ∀ b : Fin 2, (decide (phS 1 b.val = phC 0 b.val) && (decide (phS 2 b.val = phC 1 b.val) && (decide (phS 3 b.val = phC 2 b.val) && decide (phC 3 b.val = phS 0 b.val)))) = true := by decide +kernel
theorem ph_fin : ∀ q : Fin 4, ∀ b : Fin 2, (fin .f32 (phC q.val b.val) && fin .f32 (phS q.val b.val)) = true := by decide +kernel
theorem ph_len : ∀ q : Fin 4, ∀ b : Fin 2, V single (phC q.val b.val) * V single (phC q.val b.val) + V single (phS q.val b.val) * V single (phS q.val b.val) - 1 ≤ 1 / 1000000 ∧ 1 - (V single (phC q.val b.val) * V single (phC q.val b.val) + V single (phS q.val b.val) * V single (phS q.val b.val)) ≤ 1 / 1000000 := by decide +kernel
theorem ph_half : (V single (phC 2 0) - -1 ≤ 1 / 1000000 ∧ -1 - V single (phC 2 0) ≤ 1 / 1000000) ∧ (V single (phS 2 0) - 0 ≤ 1 / 1000000 ∧ 0 - V single (phS 2 0) ≤ 1 / 1000000) := by decide +kernel
theorem Nm_fin32 {b : Nat} (h : fin .f32 b = true) : Nm single b := Nm_of_fin h
theorem e8_quarter : e8 2 = 4598175219545276416 := by decide +kernel
theorem e8_order (r : Nat) (hr : r < 8) : (r < 2 → FloatKind.f64.format.order (e8 r) 4598175219545276416 = some .lt) ∧ (2 ≤ r → FloatKind.f64.format.order (e8 r) 4598175219545276416 = some .gt ∨ FloatKind.f64.format.order (e8 r) 4598175219545276416 = some .eq) ∧ (2 ≤ r → floatBits .sub .f64 (e8 r) 4598175219545276416 = some (e8 ((r - 2 : Nat) : Int))) ∧ (r ≤ 2 → floatBits .sub .f64 4598175219545276416 (e8 r) = some (e8 ((2 - r : Nat) : Int))) := by
  have h : ∀ r : Fin 8, (if r.val < 2 then decide (FloatKind.f64.format.order (e8 r.val) 4598175219545276416 = some .lt) else (decide (FloatKind.f64.format.order (e8 r.val) 4598175219545276416 = some .gt) || decide (FloatKind.f64.format.order (e8 r.val) 4598175219545276416 = some .eq)) && decide (floatBits .sub .f64 (e8 r.val) 4598175219545276416 = some (e8 ((r.val - 2 : Nat) : Int)))) = true := by decide +kernel
  have h2 : ∀ r : Fin 3, decide (floatBits .sub .f64 4598175219545276416 (e8 r.val) = some (e8 ((2 - r.val : Nat) : Int))) = true := by decide +kernel
  have a := h ⟨r, hr⟩
  by_cases hlt : r < 2
  · rw [if_pos hlt] at a
    exact ⟨fun _ => of_decide_eq_true a, fun k => absurd hlt (by omega), fun k => absurd hlt (by omega), fun k => of_decide_eq_true (h2 ⟨r, by omega⟩)⟩
  · rw [if_neg hlt] at a
    simp only [Bool.and_eq_true, Bool.or_eq_true, decide_eq_true_eq] at a
    exact ⟨fun k => absurd k hlt, fun _ => a.1, fun _ => a.2, fun k => of_decide_eq_true (h2 ⟨r, by omega⟩)⟩

set_option maxHeartbeats 4000000 in
set_option maxRecDepth 20000 in
theorem PhasorOf_ok (k : Nat) (hk : k < 17) (w : World) : Calls Try.prog 54 #[.float .f64 (e8 ((k : Int) - 8))] w fun e w' => e = .returned (.complex .f32 (phC (k % 8 / 2) (k % 8 % 2)) (phS (k % 8 / 2) (k % 8 % 2))) ∧ ∃ m, w' = w.drewN m := by
  obtain ⟨⟨r, v, f0, F⟩, hf, hl, ho⟩ := frac_ok k hk
  have IF := keep (fun w => isFinite64 (e8 ((k : Int) - 8)) w)
  rw [hf] at IF
  have AB := keep (fun w => Abs_any (e8 ((k : Int) - 8)) w hl)
  have FR := keep (fun w => fraction_of F w)
  clear F hf hl
  generalize e8 ((k : Int) - 8) % 9223372036854775808 = TA at *
  generalize e8 ((k : Int) - 8) = T at *
  have hr8 : k % 8 < 8 := Nat.mod_lt _ (by omega)
  generalize hR : k % 8 = R at *
  clear hR hk
  go_enter Try.func54, Try.ntmps54
  go_wp2_with fail
  refine (IF.out _).mono ?_
  rintro e w1 ⟨rfl, m1, rfl⟩
  go_wp2_with fail
  refine (AB.out _).mono ?_
  rintro e w' ⟨rfl, hw⟩
  have hw := hw.symm
  subst hw
  go_wp2_with fail
  refine (FR.out _).mono ?_
  rintro e w' ⟨rfl, hw⟩
  have hw := hw.symm
  subst hw
  clear IF AB FR ho
  go_wp2_with fail
  go_loopw [5, 4] (fun qq ff wr => ∃ j : Nat, 2 * j ≤ R ∧ qq = .int .i64 (j : Int) ∧ ff = .float .f64 (e8 ((R - 2 * j : Nat) : Int)) ∧ wr = w.drewN m1) (fun qq _ _ => 4 - (intOf qq).toNat)
  case atStart => exact ⟨0, by omega, rfl, rfl, rfl⟩
  case round =>
    obtain ⟨j, hj, rfl, rfl, rfl⟩ := hrel
    by_cases hlt : 2 ≤ R - 2 * j
    · obtain ⟨_, h2, h3, _⟩ := e8_order (R - 2 * j) (by omega)
      have f1 := zrun (h3 hlt)
      have e1 : R - 2 * j - 2 = R - 2 * (j + 1) := by omega
      rw [e1] at f1
      have g := h2 hlt
      have hw : IntKind.i64.wrap ((j : Int) + 1) = ((j + 1 : Nat) : Int) := IntWalk.i64_in _ ⟨by omega, by omega⟩
      clear h2 h3 e1
      generalize eA : e8 ((R - 2 * (j + 1) : Nat) : Int) = A at *
      generalize e8 ((R - 2 * j : Nat) : Int) = B at *
      have EA := keep eA
      clear eA
      rcases g with g | g
      all_goals
        go_wp2_with fail
        go_roundw
      all_goals first
        | (simp [intOf]; omega)
        | exact ⟨j + 1, by omega, by first | rfl | (congr 1; omega), by rw [EA.out], by first | rfl | trivial⟩
    · obtain ⟨h1, _, _, h4⟩ := e8_order (R - 2 * j) (by omega)
      have g := h1 (by omega)
      have f1 := zrun (h4 (by omega))
      obtain ⟨b, hb, hb2⟩ : ∃ b, R - 2 * j = b ∧ b < 2 := ⟨_, rfl, by omega⟩
      have hq : R / 2 = j ∧ R % 2 = b := by omega
      rw [hb] at f1 g ⊢
      have HQ := keep hq
      have hj4 : j = 0 ∨ j = 1 ∨ j = 2 ∨ j = 3 := by omega
      have S1 := keep (fun w => sine_ok (2 - b) (by omega) w)
      have S2 := keep (fun w => sine_ok b (by omega) w)
      have h := ph_words ⟨b, hb2⟩
      simp only [Bool.and_eq_true, decide_eq_true_eq] at h
      obtain ⟨z1, z2, z3, z4, z5, z6⟩ := h
      have h := ph_same ⟨b, hb2⟩
      simp only [Bool.and_eq_true, decide_eq_true_eq] at h
      obtain ⟨y1, y2, y3, y4⟩ := h
      have c1 := zconv64 _ _ z1
      have c2 := zconv64 _ _ z2
      have c3 := zrun z3
      have c4 := zrun z4
      have c5 := zconv64 _ _ z5
      have c6 := zconv64 _ _ z6
      have Y1 := keep y1
      have Y2 := keep y2
      have Y3 := keep y3
      have Y4 := keep y4
      clear z1 z2 z3 z4 z5 z6 h1 h4 hb hq y1 y2 y3 y4
      have PC0 := keep (show phC 0 b = phC 0 b from rfl)
      generalize fop .sub .f64 0 (sR (b : Int)) = NB at *
      generalize fop .sub .f64 0 (sR ((2 - b : Nat) : Int)) = NA at *
      generalize sR (b : Int) = RB at *
      generalize sR ((2 - b : Nat) : Int) = RA at *
      generalize e8 ((2 - b : Nat) : Int) = EA at *
      generalize e8 (b : Int) = EB at *
      rcases hj4 with rfl | rfl | rfl | rfl
      all_goals
        go_wp2_with fail
        refine (S1.out _).mono ?_
        rintro e w' ⟨rfl, hw⟩
        have hw := hw.symm
        subst hw
        go_wp2_with fail
        refine (S2.out _).mono ?_
        rintro e w' ⟨rfl, hw⟩
        have hw := hw.symm
        subst hw
        go_wp2_with fail
        go_ret
      · exact ⟨by rw [HQ.out.1, HQ.out.2]; rfl, m1, rfl⟩
      · exact ⟨by rw [HQ.out.1, HQ.out.2, Y1.out]; rfl, m1, rfl⟩
      · exact ⟨by rw [HQ.out.1, HQ.out.2, Y2.out]; rfl, m1, rfl⟩
      · exact ⟨by rw [HQ.out.1, HQ.out.2, Y3.out, Y4.out]; rfl, m1, rfl⟩
end Go.Proofs.Ytegojadabfeokaa
