/- Plain: all words of the law FnPushes, and how they stand to each other. No program. -/
import Derived.Test.YtdonmboidpppmaaBg
namespace Go.Proofs.Ytdonmboidpppmaa
open Ieee Go
set_option linter.unusedVariables false

theorem c001 : Nm double 4562254508917369340 ∧ (99 / 100000 : Rat) ≤ V double 4562254508917369340 ∧ V double 4562254508917369340 ≤ 101 / 100000 := ⟨⟨false, 4611686018427388, -62, by decide +kernel⟩, by decide +kernel, by decide +kernel⟩
theorem nm_one64 : Nm double 4607182418800017408 ∧ V double 4607182418800017408 = 1 := ⟨⟨false, 4503599627370496, -52, by decide +kernel⟩, by decide +kernel⟩
theorem not_gt {a b : Nat} (na : Nm double a) (nb : Nm double b) (h : V double a ≤ V double b) : (FloatKind.f64.format.order a b == some .gt) = false := by
  rw [show FloatKind.f64.format = double from rfl, V_gt na nb]
  exact decide_eq_false (by grind)
theorem is_lt {a b : Nat} (na : Nm double a) (nb : Nm double b) (h : V double a < V double b) : (FloatKind.f64.format.order a b == some .lt) = true := by
  rw [show FloatKind.f64.format = double from rfl, V_lt na nb]
  exact decide_eq_true h
theorem gap_small1 {x y : Nat} (nx : Nm double x) (ny : Nm double y) (h : Cl (V double x) (V double y) (1 / 2000)) : ∃ G, GapW x y G ∧ (FloatKind.f64.format.order G 4562254508917369340 == some .gt) = false := by
  have u0 : p2 0 = 1 := by decide +kernel
  have l0 : ulp double 0 ≤ 1 / 1000000 := by decide +kernel
  obtain ⟨G, h1, h2, h3, h4⟩ := gap_near nx ny (1 / 2000) h 0 (ex_double (by decide) (by decide)) (by rw [u0]; grind)
  have := c001.2.1
  exact ⟨G, h1, not_gt h2 c001.1 (by grind)⟩
/-- A tolerance: a thousandth of one more than a length. -/
theorem toler {L : Nat} (nL : Nm single L) (L0 : 0 ≤ V single L) (L1 : V single L ≤ 600) : ∃ D s r, floatToFloatBits .f32 L .f64 = some D ∧ floatBits .add .f64 4607182418800017408 D = some s ∧ floatBits .mul .f64 4562254508917369340 s = some r ∧ Nm double r ∧ (98 / 100000 : Rat) * (1 + V single L) ≤ V double r := by
  have u10 : p2 10 = 1024 := by decide +kernel
  have l10 : ulp double 10 ≤ 1 / 100000000 := by decide +kernel
  have u0 : p2 0 = 1 := by decide +kernel
  have l0 : ulp double 0 ≤ 1 / 100000000 := by decide +kernel
  obtain ⟨D, h1, n1, v1⟩ := widen_V nL
  have o := nm_one64
  have c := c001
  obtain ⟨s, h2, n2, c2, _⟩ := add_near good_double o.1 n1 10 (by rw [u10, o.2, v1]; unfold Cl; constructor <;> grind) (ex_double (by decide) (by decide))
  rw [o.2, v1] at c2
  have s0 : 1 - 1 / 100000000 + V single L ≤ V double s := by unfold Cl at c2; grind
  have s1 : V double s ≤ 602 := by unfold Cl at c2; grind
  have q1 : 0 ≤ (V double 4562254508917369340 - 99 / 100000) * V double s := Rat.mul_nonneg (by grind) (by grind)
  have q2 : 0 ≤ (101 / 100000 - V double 4562254508917369340) * V double s := Rat.mul_nonneg (by grind) (by grind)
  obtain ⟨r, h3, n3, c3, _⟩ := mul_near good_double c.1 n2 0 (by rw [u0]; unfold Cl; constructor <;> grind) (ex_double (by decide) (by decide))
  exact ⟨D, s, r, h1, h2, h3, n3, by unfold Cl at c3; grind⟩

theorem turn_zero {q m tick P h : Nat} (H : PH q m tick P h) : ∃ re im x y, TurnW q m 0 tick re im ∧ Ap single re x (1 / 4194304) 1 ∧ Ap single im y (1 / 4194304) 1 ∧ Cl x 1 (1 / 1000000000000) ∧ Cl y 0 (1 / 1000000000000) := by
  have z := nm_zero
  have u : ulp single (-126) ≤ 1 / 10000000000000 := by decide +kernel
  have u2 : ulp single (-126) ≤ p2 (-126) := by decide +kernel
  have u0 := p2_pos (-126)
  have ul := ulp_pos single (-126)
  obtain ⟨x0, e1, n1, c1, _⟩ := mul_near good_single H.nP z.1 (-126) (by rw [z.2]; unfold Cl; constructor <;> grind) (ex_single (by decide) (by decide))
  rw [z.2] at c1
  have b1 : Cl (V single x0) 0 (ulp single (-126)) := by unfold Cl at *; constructor <;> grind
  have b2 := b1.prod H.bh
  obtain ⟨t, e2, n2, c2, _⟩ := mul_near good_single n1 H.nh (-126) (b2.mono (by grind)) (ex_single (by decide) (by decide))
  have b3 : Cl (V single t) 0 (1 / 4000000000000) := by unfold Cl at *; constructor <;> grind
  obtain ⟨re, im, x, y, hw, h1, h2, hx, hy⟩ := turn_of H e1 e2 n2 (b3.mono (by grind))
  have t0 := bself_nonneg (V single t)
  have b4 := b3.prod b3
  have p1 : 0 ≤ (1 / 4000000000000 - V single t) * (1 + V single t * V single t) := Rat.mul_nonneg (by unfold Cl at b3; grind) (by grind)
  have p3 : 0 ≤ (1 / 4000000000000 + V single t) * (1 + V single t * V single t) := Rat.mul_nonneg (by unfold Cl at b3; grind) (by grind)
  have cx : Cl (x - 1) 0 (1 / 1000000000000) := quo_bd (N := 1 + V single t * V single t) (v := -2 * (V single t * V single t)) (by grind) (by grind) (by unfold Cl at *; constructor <;> grind)
  have cy : Cl y 0 (1 / 1000000000000) := quo_bd (N := 1 + V single t * V single t) (by grind) hy (by unfold Cl at *; constructor <;> grind)
  exact ⟨re, im, x, y, hw, h1, h2, by unfold Cl at *; constructor <;> grind, cy⟩

/-! ### Free of a field, a speed is turned alone -/
theorem rot_id (u v x y T : Rat) (hx : x * (1 + T * T) = 1 - T * T) (hy : y * (1 + T * T) = -2 * T) : x * x + y * y = 1 := by
  have t0 := bself_nonneg T
  have h : (x * x + y * y - 1) * ((1 + T * T) * (1 + T * T)) = 0 := by
    have e1 : x * (1 + T * T) * (x * (1 + T * T)) = (1 - T * T) * (1 - T * T) := by rw [hx]
    have e2 : y * (1 + T * T) * (y * (1 + T * T)) = (-2 * T) * (-2 * T) := by rw [hy]
    grind
  rcases Rat.mul_eq_zero.1 h with h | h
  · grind
  · rcases Rat.mul_eq_zero.1 h with h | h <;> grind
theorem push_free {q m mag tick u v P h t tr ti : Nat} {x y : Rat} (H : PH q m tick P h) (N : TurnN q m mag tick P h t tr ti x y) (nu : Nm single u) (nv : Nm single v) (bu : Cl (V single u) 0 1) (bv : Cl (V single v) 0 1) :
    ∃ re im, PushW u v q m 0 0 mag tick re im ∧ Nm single re ∧ Nm single im ∧ Cl (V single re) (V single u * x - V single v * y) (1 / 100000) ∧ Cl (V single im) (V single u * y + V single v * x) (1 / 100000) := by
  have z := nm_zero
  obtain ⟨c, kx, ky, K⟩ := kick_near H z.1 z.1 0 (by rw [z.2]; exact Cl.refl _ (by grind)) (by rw [z.2]; exact Cl.refl _ (by grind)) (-126) (ex_single (by decide) (by decide)) (by have := p2_pos (-126); grind)
  have ul : ulp single (-126) ≤ 1 / 1000000 := by decide +kernel
  have kx0 := K.ckx
  have ky0 := K.cky
  rw [z.2] at kx0 ky0
  have bkx : Cl (V single kx) 0 (1 / 1000000) := by unfold Cl at *; constructor <;> grind
  have bky : Cl (V single ky) 0 (1 / 1000000) := by unfold Cl at *; constructor <;> grind
  have u1 : p2 1 = 2 := by decide +kernel
  have u3 : p2 3 = 8 := by decide +kernel
  have l1 : ulp single 1 = 1 / 8388608 := by decide +kernel
  have l3 : ulp double 3 = 1 / 1125899906842624 := by decide +kernel
  have s3 : ulp single 3 = 1 / 2097152 := by decide +kernel
  obtain ⟨re, im, hw, n1, n2, c1, c2⟩ := push_near K.w N.w nu nv K.nkx K.nky 1 (1 / 1000000) (5 / 4) bu bv bkx bky N.are N.aim 1 (ex_single (by decide) (by decide)) (by rw [u1]; grind) (by rw [l1]; grind) 3 (ex_double (by decide) (by decide)) (by rw [u3]; grind) (by rw [l3]; grind) 3 (ex_single (by decide) (by decide)) (by rw [u3]; grind) (by rw [s3]; grind) (1 / 500000) (by rw [l1, l3, s3]; grind)
  have p1 := bkx.prod N.are.bd
  have p2' := bky.prod N.aim.bd
  have p3 := bkx.prod N.aim.bd
  have p4 := bky.prod N.are.bd
  refine ⟨re, im, hw, n1, n2, ?_, ?_⟩ <;> unfold Cl at * <;> constructor <;> grind
end Go.Proofs.Ytdonmboidpppmaa
