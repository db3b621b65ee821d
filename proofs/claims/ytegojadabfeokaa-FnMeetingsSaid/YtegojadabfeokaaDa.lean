/- Plain: what comes of a meeting of two particles, near its ideal. No program. -/
import Derived.Test.YtegojadabfeokaaBh
namespace Go.Proofs.Ytegojadabfeokaa
open Ieee Go
set_option linter.unusedVariables false

def BetwW (u1 u2 v1 v2 ma mb px py : Nat) : Prop := ∃ a1 a2 b1 b2 s1 s2 m, floatBits .mul .f32 u1 ma = some a1 ∧ floatBits .mul .f32 u2 ma = some a2 ∧ floatBits .mul .f32 v1 mb = some b1 ∧ floatBits .mul .f32 v2 mb = some b2 ∧ floatBits .add .f32 a1 b1 = some s1 ∧ floatBits .add .f32 a2 b2 = some s2 ∧ floatBits .add .f32 ma mb = some m ∧ QuotW s1 s2 m 0 px py
def MeetW (u1 u2 v1 v2 ma mb c s px py o1 o2 t1 t2 : Nat) : Prop := ∃ d1 d2 r1 r2 m k1 k2 x1 x2 y1 y2, floatBits .sub .f32 u1 v1 = some d1 ∧ floatBits .sub .f32 u2 v2 = some d2 ∧ MulW d1 d2 c s r1 r2 ∧ floatBits .add .f32 ma mb = some m ∧ floatBits .quo .f32 mb m = some k1 ∧ floatBits .quo .f32 ma m = some k2 ∧ floatBits .mul .f32 r1 k1 = some x1 ∧ floatBits .mul .f32 r2 k1 = some x2 ∧ floatBits .add .f32 px x1 = some o1 ∧ floatBits .add .f32 py x2 = some o2 ∧ floatBits .mul .f32 r1 k2 = some y1 ∧ floatBits .mul .f32 r2 k2 = some y2 ∧ floatBits .sub .f32 px y1 = some t1 ∧ floatBits .sub .f32 py y2 = some t2
/-- Shares of two masses. -/
structure Sh (κ1 κ2 a b : Rat) : Prop where
  p1 : 0 ≤ κ1
  p2 : 0 ≤ κ2
  s : κ1 + κ2 = 1
  h1 : κ1 * (a + b) = b
  h2 : κ2 * (a + b) = a
theorem sh_ex {a b : Rat} (ha : 1 / 4 ≤ a) (hb : 1 / 4 ≤ b) : ∃ κ1 κ2, Sh κ1 κ2 a b := by
  have hn : a + b ≠ 0 := by grind
  have i := Rat.inv_mul_cancel (a + b) hn
  have i0 : 0 ≤ (a + b)⁻¹ := by
    rcases Rat.le_total (a := 0) (b := (a + b)⁻¹) with h | h
    · exact h
    · have := Rat.mul_nonneg (a := -(a + b)⁻¹) (b := a + b) (by grind) (by grind)
      grind
  refine ⟨b * (a + b)⁻¹, a * (a + b)⁻¹, Rat.mul_nonneg (by grind) i0, Rat.mul_nonneg (by grind) i0, by grind, by rw [Rat.mul_assoc, i, Rat.mul_one], by rw [Rat.mul_assoc, i, Rat.mul_one]⟩
theorem mean_bd {κ1 κ2 a b u v U : Rat} (S : Sh κ1 κ2 a b) (hu : Cl u 0 U) (hv : Cl v 0 U) : Cl (κ2 * u + κ1 * v) 0 U := by
  have q1 := Rat.mul_nonneg S.p2 (b := U - u) (by unfold Cl at hu; grind)
  have q2 := Rat.mul_nonneg S.p2 (b := U + u) (by unfold Cl at hu; grind)
  have q3 := Rat.mul_nonneg S.p1 (b := U - v) (by unfold Cl at hv; grind)
  have q4 := Rat.mul_nonneg S.p1 (b := U + v) (by unfold Cl at hv; grind)
  have := S.s
  have e : U = κ2 * U + κ1 * U := by grind
  unfold Cl
  constructor <;> grind

theorem betw_near1 {u1 u2 v1 v2 ma mb : Nat} {κ1 κ2 : Rat} (S : Sh κ1 κ2 (V single ma) (V single mb)) (na : Nm single ma) (nb : Nm single mb) (a0 : 1 / 4 ≤ V single ma) (a2 : V single ma ≤ 2) (b0 : 1 / 4 ≤ V single mb) (b2 : V single mb ≤ 2) (n1 : Nm single u1) (n2 : Nm single u2) (n3 : Nm single v1) (n4 : Nm single v2) (h1 : Cl (V single u1) 0 1) (h2 : Cl (V single u2) 0 1) (h3 : Cl (V single v1) 0 1) (h4 : Cl (V single v2) 0 1) :
    ∃ px py, BetwW u1 u2 v1 v2 ma mb px py ∧ Nm single px ∧ Nm single py ∧ Cl (V single px) (κ2 * V single u1 + κ1 * V single v1) (1 / 300000) ∧ Cl (V single py) (κ2 * V single u2 + κ1 * V single v2) (1 / 300000) := by
  have z := nm_zero
  have ba : Cl (V single ma) 0 2 := by unfold Cl; constructor <;> grind
  have bb : Cl (V single mb) 0 2 := by unfold Cl; constructor <;> grind
  have uE1 : p2 1 = 2 := by decide +kernel
  have lE1 : ulp single 1 = 1 / 8388608 := by decide +kernel
  have uE3 : p2 3 = 8 := by decide +kernel
  have lE3 : ulp single 3 = 1 / 2097152 := by decide +kernel
  have u2' : p2 2 = 4 := by decide +kernel
  have l2' : ulp single 2 = 1 / 4194304 := by decide +kernel
  obtain ⟨a1, q1, m1, c1, _⟩ := mul_near good_single n1 na 1 ((h1.prod ba).mono (by rw [uE1]; grind)) (ex_single (by decide) (by decide))
  obtain ⟨a2', q2, m2, c2, _⟩ := mul_near good_single n2 na 1 ((h2.prod ba).mono (by rw [uE1]; grind)) (ex_single (by decide) (by decide))
  obtain ⟨b1, q3, m3, c3, _⟩ := mul_near good_single n3 nb 1 ((h3.prod bb).mono (by rw [uE1]; grind)) (ex_single (by decide) (by decide))
  obtain ⟨b2', q4, m4, c4, _⟩ := mul_near good_single n4 nb 1 ((h4.prod bb).mono (by rw [uE1]; grind)) (ex_single (by decide) (by decide))
  have p1 := h1.prod ba
  have p2' := h2.prod ba
  have p3 := h3.prod bb
  have p4 := h4.prod bb
  rw [lE1] at c1 c2 c3 c4
  obtain ⟨s1, q5, m5, c5, _⟩ := add_near good_single m1 m3 3 (by rw [uE3]; clear p2' p4 c2 c4; unfold Cl at *; constructor <;> grind) (ex_single (by decide) (by decide))
  obtain ⟨s2, q6, m6, c6, _⟩ := add_near good_single m2 m4 3 (by rw [uE3]; clear p1 p3 c1 c3; unfold Cl at *; constructor <;> grind) (ex_single (by decide) (by decide))
  rw [lE3] at c5 c6
  obtain ⟨m, q7, m7, c7, _⟩ := add_near good_single na nb 2 (by rw [u2']; unfold Cl; constructor <;> grind) (ex_single (by decide) (by decide))
  rw [l2'] at c7
  have mlo : 49 / 100 ≤ V single m := by unfold Cl at c7; grind
  have mhi : V single m ≤ 5 := by unfold Cl at c7; grind
  have hm0 : V single m ≠ 0 := by grind
  obtain ⟨ι, hι⟩ : ∃ ι : Rat, ι * V single m = 1 := ⟨(V single m)⁻¹, Rat.inv_mul_cancel _ hm0⟩
  have M1 := mean_bd S h1 h3
  have M2 := mean_bd S h2 h4
  have key : ∀ (s P u v : Rat), P = κ2 * u + κ1 * v → Cl P 0 1 → Cl s (u * V single ma + v * V single mb) (1 / 1000000) → Cl (s * ι) P (1 / 380000) := fun s P u v hP hb hs => by
    have e0 : P * (V single ma + V single mb) = u * V single ma + v * V single mb := by
      have e1 : u * (κ2 * (V single ma + V single mb)) = u * V single ma := by rw [S.h2]
      have e2 : v * (κ1 * (V single ma + V single mb)) = v * V single mb := by rw [S.h1]
      rw [hP]; grind
    have e3 : (s * ι - P) * V single m = (s - P * (V single ma + V single mb)) - P * (V single m - (V single ma + V single mb)) := by
      have : s * ι * V single m = s := by rw [Rat.mul_assoc, hι, Rat.mul_one]
      grind
    have w := hb.prod c7.zero_of
    rw [e0] at e3
    have := quo_bd (q := s * ι - P) (N := V single m) (B := 1 / 380000) (by grind) e3 (by unfold Cl at *; constructor <;> grind)
    unfold Cl at *
    constructor <;> grind
  have k1 := key (V single s1) _ _ _ rfl M1 (by clear p2' p4 c2 c4 c6; unfold Cl at *; constructor <;> grind)
  have k2 := key (V single s2) _ _ _ rfl M2 (by clear p1 p3 c1 c3 c5; unfold Cl at *; constructor <;> grind)
  have bs1 : Cl (V single s1) 0 5 := by clear p2' p4 c2 c4 c6 k2; unfold Cl at *; constructor <;> grind
  have bs2 : Cl (V single s2) 0 5 := by clear p1 p3 c1 c3 c5 k1; unfold Cl at *; constructor <;> grind
  have uQ : p2 6 = 64 := by decide +kernel
  have lQ : ulp double 6 = 1 / 140737488355328 := by decide +kernel
  have uG : p2 2 = 4 := by decide +kernel
  have lG : ulp double (2 + 2) ≤ 1 / 1000000000000 := by decide +kernel
  have sG : ulp single 2 = 1 / 4194304 := by decide +kernel
  have msq := Rat.mul_nonneg (a := V single m - 49 / 100) (b := V single m - 49 / 100) (by grind) (by grind)
  obtain ⟨px, py, hq, aq, bq⟩ := quot_near (A := 5) (C := 5) m5 m6 m7 z.1 bs1 bs2 (by unfold Cl; constructor <;> grind) (by rw [z.2]; unfold Cl; constructor <;> grind) 6 (ex_double (by decide) (by decide)) (by rw [uQ]; grind) (by rw [uQ]; grind) (by rw [lQ]; grind) (η := 1 / 35184372088832) (by rw [lQ]; grind)
    (V single s1 * ι) (V single s2 * ι) (1 + 1 / 2) (1 / 5) (1 / 1000000000) (by rw [z.2]; grind) (by rw [z.2]; grind) (by unfold Cl at *; constructor <;> grind) (by unfold Cl at *; constructor <;> grind) (by rw [z.2]; grind) (by grind) (by grind) 2 (ex_double (by decide) (by decide)) (by rw [uG]; grind) (κ := 1 / 500000000) (by grind) 2 (ex_single (by decide) (by decide)) (by rw [uG]; grind) (e' := 1 / 3000000) (by rw [sG]; grind)
  exact ⟨px, py, ⟨a1, a2', b1, b2', s1, s2, m, q1, q2, q3, q4, q5, q6, q7, hq⟩, aq.nm, bq.nm, (aq.cl.trans k1).mono (by grind), (bq.cl.trans k2).mono (by grind)⟩

theorem betw_near4 {u1 u2 v1 v2 ma mb : Nat} {κ1 κ2 : Rat} (S : Sh κ1 κ2 (V single ma) (V single mb)) (na : Nm single ma) (nb : Nm single mb) (a0 : 1 / 4 ≤ V single ma) (a2 : V single ma ≤ 2) (b0 : 1 / 4 ≤ V single mb) (b2 : V single mb ≤ 2) (n1 : Nm single u1) (n2 : Nm single u2) (n3 : Nm single v1) (n4 : Nm single v2) (h1 : Cl (V single u1) 0 4) (h2 : Cl (V single u2) 0 4) (h3 : Cl (V single v1) 0 4) (h4 : Cl (V single v2) 0 4) :
    ∃ px py, BetwW u1 u2 v1 v2 ma mb px py ∧ Nm single px ∧ Nm single py ∧ Cl (V single px) (κ2 * V single u1 + κ1 * V single v1) (1 / 80000) ∧ Cl (V single py) (κ2 * V single u2 + κ1 * V single v2) (1 / 80000) := by
  have z := nm_zero
  have ba : Cl (V single ma) 0 2 := by unfold Cl; constructor <;> grind
  have bb : Cl (V single mb) 0 2 := by unfold Cl; constructor <;> grind
  have uE1 : p2 3 = 8 := by decide +kernel
  have lE1 : ulp single 3 = 1 / 2097152 := by decide +kernel
  have uE3 : p2 5 = 32 := by decide +kernel
  have lE3 : ulp single 5 = 1 / 524288 := by decide +kernel
  have u2' : p2 2 = 4 := by decide +kernel
  have l2' : ulp single 2 = 1 / 4194304 := by decide +kernel
  obtain ⟨a1, q1, m1, c1, _⟩ := mul_near good_single n1 na 3 ((h1.prod ba).mono (by rw [uE1]; grind)) (ex_single (by decide) (by decide))
  obtain ⟨a2', q2, m2, c2, _⟩ := mul_near good_single n2 na 3 ((h2.prod ba).mono (by rw [uE1]; grind)) (ex_single (by decide) (by decide))
  obtain ⟨b1, q3, m3, c3, _⟩ := mul_near good_single n3 nb 3 ((h3.prod bb).mono (by rw [uE1]; grind)) (ex_single (by decide) (by decide))
  obtain ⟨b2', q4, m4, c4, _⟩ := mul_near good_single n4 nb 3 ((h4.prod bb).mono (by rw [uE1]; grind)) (ex_single (by decide) (by decide))
  have p1 := h1.prod ba
  have p2' := h2.prod ba
  have p3 := h3.prod bb
  have p4 := h4.prod bb
  rw [lE1] at c1 c2 c3 c4
  obtain ⟨s1, q5, m5, c5, _⟩ := add_near good_single m1 m3 5 (by rw [uE3]; clear p2' p4 c2 c4; unfold Cl at *; constructor <;> grind) (ex_single (by decide) (by decide))
  obtain ⟨s2, q6, m6, c6, _⟩ := add_near good_single m2 m4 5 (by rw [uE3]; clear p1 p3 c1 c3; unfold Cl at *; constructor <;> grind) (ex_single (by decide) (by decide))
  rw [lE3] at c5 c6
  obtain ⟨m, q7, m7, c7, _⟩ := add_near good_single na nb 2 (by rw [u2']; unfold Cl; constructor <;> grind) (ex_single (by decide) (by decide))
  rw [l2'] at c7
  have mlo : 49 / 100 ≤ V single m := by unfold Cl at c7; grind
  have mhi : V single m ≤ 5 := by unfold Cl at c7; grind
  have hm0 : V single m ≠ 0 := by grind
  obtain ⟨ι, hι⟩ : ∃ ι : Rat, ι * V single m = 1 := ⟨(V single m)⁻¹, Rat.inv_mul_cancel _ hm0⟩
  have M1 := mean_bd S h1 h3
  have M2 := mean_bd S h2 h4
  have key : ∀ (s P u v : Rat), P = κ2 * u + κ1 * v → Cl P 0 4 → Cl s (u * V single ma + v * V single mb) (4 / 1000000) → Cl (s * ι) P (4 / 380000) := fun s P u v hP hb hs => by
    have e0 : P * (V single ma + V single mb) = u * V single ma + v * V single mb := by
      have e1 : u * (κ2 * (V single ma + V single mb)) = u * V single ma := by rw [S.h2]
      have e2 : v * (κ1 * (V single ma + V single mb)) = v * V single mb := by rw [S.h1]
      rw [hP]; grind
    have e3 : (s * ι - P) * V single m = (s - P * (V single ma + V single mb)) - P * (V single m - (V single ma + V single mb)) := by
      have : s * ι * V single m = s := by rw [Rat.mul_assoc, hι, Rat.mul_one]
      grind
    have w := hb.prod c7.zero_of
    rw [e0] at e3
    have := quo_bd (q := s * ι - P) (N := V single m) (B := 4 / 380000) (by grind) e3 (by unfold Cl at *; constructor <;> grind)
    unfold Cl at *
    constructor <;> grind
  have k1 := key (V single s1) _ _ _ rfl M1 (by clear p2' p4 c2 c4 c6; unfold Cl at *; constructor <;> grind)
  have k2 := key (V single s2) _ _ _ rfl M2 (by clear p1 p3 c1 c3 c5; unfold Cl at *; constructor <;> grind)
  have bs1 : Cl (V single s1) 0 20 := by clear p2' p4 c2 c4 c6 k2; unfold Cl at *; constructor <;> grind
  have bs2 : Cl (V single s2) 0 20 := by clear p1 p3 c1 c3 c5 k1; unfold Cl at *; constructor <;> grind
  have uQ : p2 8 = 256 := by decide +kernel
  have lQ : ulp double 8 = 1 / 35184372088832 := by decide +kernel
  have uG : p2 3 = 8 := by decide +kernel
  have lG : ulp double (3 + 2) ≤ 1 / 1000000000000 := by decide +kernel
  have sG : ulp single 3 = 1 / 2097152 := by decide +kernel
  have msq := Rat.mul_nonneg (a := V single m - 49 / 100) (b := V single m - 49 / 100) (by grind) (by grind)
  obtain ⟨px, py, hq, aq, bq⟩ := quot_near (A := 20) (C := 5) m5 m6 m7 z.1 bs1 bs2 (by unfold Cl; constructor <;> grind) (by rw [z.2]; unfold Cl; constructor <;> grind) 8 (ex_double (by decide) (by decide)) (by rw [uQ]; grind) (by rw [uQ]; grind) (by rw [lQ]; grind) (η := 1 / 8796093022208) (by rw [lQ]; grind)
    (V single s1 * ι) (V single s2 * ι) (4 + 1 / 2) (1 / 5) (1 / 1000000000) (by rw [z.2]; grind) (by rw [z.2]; grind) (by unfold Cl at *; constructor <;> grind) (by unfold Cl at *; constructor <;> grind) (by rw [z.2]; grind) (by grind) (by grind) 3 (ex_double (by decide) (by decide)) (by rw [uG]; grind) (κ := 1 / 500000000) (by grind) 3 (ex_single (by decide) (by decide)) (by rw [uG]; grind) (e' := 1 / 1500000) (by rw [sG]; grind)
  exact ⟨px, py, ⟨a1, a2', b1, b2', s1, s2, m, q1, q2, q3, q4, q5, q6, q7, hq⟩, aq.nm, bq.nm, (aq.cl.trans k1).mono (by grind), (bq.cl.trans k2).mono (by grind)⟩

theorem meet_near1 {u1 u2 v1 v2 ma mb c s px py : Nat} {κ1 κ2 : Rat} (S : Sh κ1 κ2 (V single ma) (V single mb)) (na : Nm single ma) (nb : Nm single mb) (a0 : 1 / 4 ≤ V single ma) (a2 : V single ma ≤ 2) (b0 : 1 / 4 ≤ V single mb) (b2 : V single mb ≤ 2) (n1 : Nm single u1) (n2 : Nm single u2) (n3 : Nm single v1) (n4 : Nm single v2) (h1 : Cl (V single u1) 0 1) (h2 : Cl (V single u2) 0 1) (h3 : Cl (V single v1) 0 1) (h4 : Cl (V single v2) 0 1) (npx : Nm single px) (npy : Nm single py) (cpx : Cl (V single px) (κ2 * V single u1 + κ1 * V single v1) (1 / 300000)) (cpy : Cl (V single py) (κ2 * V single u2 + κ1 * V single v2) (1 / 300000)) (nc : Nm single c) (ns : Nm single s) (bc : Cl (V single c) 0 (101 / 100)) (bs : Cl (V single s) 0 (101 / 100)) :
    ∃ o1 o2 t1 t2, MeetW u1 u2 v1 v2 ma mb c s px py o1 o2 t1 t2 ∧ (Nm single o1 ∧ Nm single o2 ∧ Nm single t1 ∧ Nm single t2) ∧
      Cl (V single o1) (κ2 * V single u1 + κ1 * V single v1 + κ1 * ((V single u1 - V single v1) * V single c - (V single u2 - V single v2) * V single s)) (1 / 70000) ∧ Cl (V single o2) (κ2 * V single u2 + κ1 * V single v2 + κ1 * ((V single u1 - V single v1) * V single s + (V single u2 - V single v2) * V single c)) (1 / 70000) ∧
      Cl (V single t1) (κ2 * V single u1 + κ1 * V single v1 - κ2 * ((V single u1 - V single v1) * V single c - (V single u2 - V single v2) * V single s)) (1 / 70000) ∧ Cl (V single t2) (κ2 * V single u2 + κ1 * V single v2 - κ2 * ((V single u1 - V single v1) * V single s + (V single u2 - V single v2) * V single c)) (1 / 70000) := by
  have uE1 : p2 1 = 2 := by decide +kernel
  have lE1 : ulp single 1 = 1 / 8388608 := by decide +kernel
  have uE3 : p2 3 = 8 := by decide +kernel
  have lE3 : ulp single 3 = 1 / 2097152 := by decide +kernel
  have dE3 : ulp double 3 ≤ 1 / 1000000000000 := by decide +kernel
  have u2' : p2 2 = 4 := by decide +kernel
  have l2' : ulp single 2 = 1 / 4194304 := by decide +kernel
  have u1' : p2 1 = 2 := by decide +kernel
  have l3' : ulp single (1 + 2) = 1 / 2097152 := by decide +kernel
  obtain ⟨d1, q1, m1, c1, _⟩ := sub_near good_single n1 n3 1 (by rw [uE1]; unfold Cl at *; constructor <;> grind) (ex_single (by decide) (by decide))
  obtain ⟨d2, q2, m2, c2, _⟩ := sub_near good_single n2 n4 1 (by rw [uE1]; unfold Cl at *; constructor <;> grind) (ex_single (by decide) (by decide))
  rw [lE1] at c1 c2
  have bd1 : Cl (V single u1 - V single v1) 0 2 := by unfold Cl at *; constructor <;> grind
  have bd2 : Cl (V single u2 - V single v2) 0 2 := by unfold Cl at *; constructor <;> grind
  obtain ⟨r1, r2, hm, ar1, ar2⟩ := mul_cl (A := 21 / 10) (C := 101 / 100) m1 m2 nc ns (by unfold Cl at *; constructor <;> grind) (by unfold Cl at *; constructor <;> grind) bc bs 3 (ex_double (by decide) (by decide)) (by rw [show p2 3 = 8 from by decide +kernel]; grind) (by rw [show ulp double 3 = 1 / 1125899906842624 from by decide +kernel]; grind) (η := 1 / 100000000000) (by rw [show ulp double 3 = 1 / 1125899906842624 from by decide +kernel]; grind) 3 (ex_single (by decide) (by decide)) (by rw [show p2 3 = 8 from by decide +kernel]; grind) (e' := 1 / 2000000) (by rw [show ulp single 3 = 1 / 2097152 from by decide +kernel]; grind)
  -- the turned difference
  have w1 := c1.zero_of.prod bc
  have w2 := c2.zero_of.prod bs
  have w3 := c1.zero_of.prod bs
  have w4 := c2.zero_of.prod bc
  have cr1 : Cl (V single r1) ((V single u1 - V single v1) * V single c - (V single u2 - V single v2) * V single s) (1 / 1300000) := by have := ar1.cl; clear w3 w4 cpx cpy; unfold Cl at *; constructor <;> grind
  have cr2 : Cl (V single r2) ((V single u1 - V single v1) * V single s + (V single u2 - V single v2) * V single c) (1 / 1300000) := by have := ar2.cl; clear w1 w2 cpx cpy; unfold Cl at *; constructor <;> grind
  have x1 := bd1.prod bc
  have x2 := bd2.prod bs
  have x3 := bd1.prod bs
  have x4 := bd2.prod bc
  have bρ1 : Cl ((V single u1 - V single v1) * V single c - (V single u2 - V single v2) * V single s) 0 (405 / 100) := by clear x3 x4 w1 w2 w3 w4 cr1 cr2 cpx cpy; unfold Cl at *; constructor <;> grind
  have bρ2 : Cl ((V single u1 - V single v1) * V single s + (V single u2 - V single v2) * V single c) 0 (405 / 100) := by clear x1 x2 w1 w2 w3 w4 cr1 cr2 cpx cpy; unfold Cl at *; constructor <;> grind
  have M1 := mean_bd S h1 h3
  have M2 := mean_bd S h2 h4
  generalize (V single u1 - V single v1) * V single c - (V single u2 - V single v2) * V single s = ρ1 at *
  generalize (V single u1 - V single v1) * V single s + (V single u2 - V single v2) * V single c = ρ2 at *
  generalize κ2 * V single u1 + κ1 * V single v1 = P1 at *
  generalize κ2 * V single u2 + κ1 * V single v2 = P2 at *
  clear w1 w2 w3 w4 x1 x2 x3 x4 c1 c2 bd1 bd2
  -- the shares
  obtain ⟨m, q7, m7, c7, _⟩ := add_near good_single na nb 2 (by rw [u2']; unfold Cl; constructor <;> grind) (ex_single (by decide) (by decide))
  rw [l2'] at c7
  have mlo : 49 / 100 ≤ V single m := by unfold Cl at c7; grind
  have hm0 : V single m ≠ 0 := by grind
  have share : ∀ (x κ : Rat), 0 ≤ κ → κ ≤ 1 → κ * (V single ma + V single mb) = x → Cl (x * (V single m)⁻¹) κ (1 / 2000000) := fun x κ h0 h1 hx => by
    have e1 : x * (V single m)⁻¹ * V single m = x := by rw [Rat.mul_assoc, Rat.inv_mul_cancel _ hm0, Rat.mul_one]
    have e2 : (x * (V single m)⁻¹ - κ) * V single m = -(κ * (V single m - (V single ma + V single mb))) := by grind
    have bκ : Cl κ 0 1 := by unfold Cl; constructor <;> grind
    have w := bκ.prod c7.zero_of
    have := quo_bd (q := x * (V single m)⁻¹ - κ) (N := V single m) (B := 1 / 2000000) (by grind) e2 (by unfold Cl at *; constructor <;> grind)
    unfold Cl at *
    constructor <;> grind
  have κs := S.s
  have κ10 := S.p1
  have κ20 := S.p2
  have f1 := share _ κ1 S.p1 (by grind) S.h1
  have f2 := share _ κ2 S.p2 (by grind) S.h2
  obtain ⟨k1, q8, m8, c8, _⟩ := div_near good_single nb m7 hm0 1 (V single mb * (V single m)⁻¹) (by rw [Rat.mul_assoc, Rat.inv_mul_cancel _ hm0, Rat.mul_one]) (by rw [u1']; unfold Cl at f1 ⊢; constructor <;> grind) (ex_single (by decide) (by decide)) (by decide)
  obtain ⟨k2, q9, m9, c9, _⟩ := div_near good_single na m7 hm0 1 (V single ma * (V single m)⁻¹) (by rw [Rat.mul_assoc, Rat.inv_mul_cancel _ hm0, Rat.mul_one]) (by rw [u1']; unfold Cl at f2 ⊢; constructor <;> grind) (ex_single (by decide) (by decide)) (by decide)
  rw [l3'] at c8 c9
  have g1 : Cl (V single k1) κ1 (1 / 1000000) := (c8.trans f1).mono (by grind)
  have g2 : Cl (V single k2) κ2 (1 / 1000000) := (c9.trans f2).mono (by grind)
  clear c8 c9 f1 f2 share
  have bκ1 : Cl κ1 0 1 := by unfold Cl; constructor <;> grind
  have bκ2 : Cl κ2 0 1 := by unfold Cl; constructor <;> grind
  have fin : ∀ (r k p : Nat) (ρ κ P : Rat), Nm single r → Nm single k → Nm single p → Cl (V single r) ρ (1 / 1300000) → Cl ρ 0 (405 / 100) → Cl (V single k) κ (1 / 1000000) → Cl κ 0 1 → Cl (V single p) P (1 / 300000) → Cl P 0 1 → ∃ x o t, floatBits .mul .f32 r k = some x ∧ floatBits .add .f32 p x = some o ∧ floatBits .sub .f32 p x = some t ∧ Nm single o ∧ Nm single t ∧ Cl (V single o) (P + κ * ρ) (1 / 70000) ∧ Cl (V single t) (P - κ * ρ) (1 / 70000) := by
    intro r k p ρ κ P nr nk np cr bρ ck bκ cp bP
    have pr := cr.mul ck bρ bκ
    have pb := bρ.prod bκ
    obtain ⟨x, z1, nx, cx, _⟩ := mul_near good_single nr nk 3 (by rw [uE3]; unfold Cl at *; constructor <;> grind) (ex_single (by decide) (by decide))
    rw [lE3] at cx
    have cx' : Cl (V single x) (ρ * κ) (1 / 170000) := (cx.trans pr).mono (by grind)
    clear cx pr cr ck
    obtain ⟨o, z2, no, co, _⟩ := add_near good_single np nx 3 (by rw [uE3]; unfold Cl at *; constructor <;> grind) (ex_single (by decide) (by decide))
    obtain ⟨t, z3, nt, ct, _⟩ := sub_near good_single np nx 3 (by rw [uE3]; unfold Cl at *; constructor <;> grind) (ex_single (by decide) (by decide))
    rw [lE3] at co ct
    exact ⟨x, o, t, z1, z2, z3, no, nt, by unfold Cl at *; constructor <;> grind, by unfold Cl at *; constructor <;> grind⟩
  obtain ⟨x1, o1, _, y1, y2, _, no1, _, co1, _⟩ := fin r1 k1 px ρ1 κ1 P1 ar1.nm m8 npx cr1 bρ1 g1 bκ1 cpx M1
  obtain ⟨x2, o2, _, y3, y4, _, no2, _, co2, _⟩ := fin r2 k1 py ρ2 κ1 P2 ar2.nm m8 npy cr2 bρ2 g1 bκ1 cpy M2
  obtain ⟨x3, _, t1, y5, _, y6, _, nt1, _, ct1⟩ := fin r1 k2 px ρ1 κ2 P1 ar1.nm m9 npx cr1 bρ1 g2 bκ2 cpx M1
  obtain ⟨x4, _, t2, y7, _, y8, _, nt2, _, ct2⟩ := fin r2 k2 py ρ2 κ2 P2 ar2.nm m9 npy cr2 bρ2 g2 bκ2 cpy M2
  exact ⟨o1, o2, t1, t2, ⟨d1, d2, r1, r2, m, k1, k2, x1, x2, x3, x4, q1, q2, hm, q7, q8, q9, y1, y3, y2, y4, y5, y7, y6, y8⟩, ⟨no1, no2, nt1, nt2⟩, co1, co2, ct1, ct2⟩

theorem meet_near4 {u1 u2 v1 v2 ma mb c s px py : Nat} {κ1 κ2 : Rat} (S : Sh κ1 κ2 (V single ma) (V single mb)) (na : Nm single ma) (nb : Nm single mb) (a0 : 1 / 4 ≤ V single ma) (a2 : V single ma ≤ 2) (b0 : 1 / 4 ≤ V single mb) (b2 : V single mb ≤ 2) (n1 : Nm single u1) (n2 : Nm single u2) (n3 : Nm single v1) (n4 : Nm single v2) (h1 : Cl (V single u1) 0 4) (h2 : Cl (V single u2) 0 4) (h3 : Cl (V single v1) 0 4) (h4 : Cl (V single v2) 0 4) (npx : Nm single px) (npy : Nm single py) (cpx : Cl (V single px) (κ2 * V single u1 + κ1 * V single v1) (1 / 80000)) (cpy : Cl (V single py) (κ2 * V single u2 + κ1 * V single v2) (1 / 80000)) (nc : Nm single c) (ns : Nm single s) (bc : Cl (V single c) 0 (101 / 100)) (bs : Cl (V single s) 0 (101 / 100)) :
    ∃ o1 o2 t1 t2, MeetW u1 u2 v1 v2 ma mb c s px py o1 o2 t1 t2 ∧ (Nm single o1 ∧ Nm single o2 ∧ Nm single t1 ∧ Nm single t2) ∧
      Cl (V single o1) (κ2 * V single u1 + κ1 * V single v1 + κ1 * ((V single u1 - V single v1) * V single c - (V single u2 - V single v2) * V single s)) (1 / 15000) ∧ Cl (V single o2) (κ2 * V single u2 + κ1 * V single v2 + κ1 * ((V single u1 - V single v1) * V single s + (V single u2 - V single v2) * V single c)) (1 / 15000) ∧
      Cl (V single t1) (κ2 * V single u1 + κ1 * V single v1 - κ2 * ((V single u1 - V single v1) * V single c - (V single u2 - V single v2) * V single s)) (1 / 15000) ∧ Cl (V single t2) (κ2 * V single u2 + κ1 * V single v2 - κ2 * ((V single u1 - V single v1) * V single s + (V single u2 - V single v2) * V single c)) (1 / 15000) := by
  have uE1 : p2 3 = 8 := by decide +kernel
  have lE1 : ulp single 3 = 1 / 2097152 := by decide +kernel
  have uE3 : p2 5 = 32 := by decide +kernel
  have lE3 : ulp single 5 = 1 / 524288 := by decide +kernel
  have dE3 : ulp double 5 ≤ 1 / 1000000000000 := by decide +kernel
  have u2' : p2 2 = 4 := by decide +kernel
  have l2' : ulp single 2 = 1 / 4194304 := by decide +kernel
  have u1' : p2 1 = 2 := by decide +kernel
  have l3' : ulp single (1 + 2) = 1 / 2097152 := by decide +kernel
  obtain ⟨d1, q1, m1, c1, _⟩ := sub_near good_single n1 n3 3 (by rw [uE1]; unfold Cl at *; constructor <;> grind) (ex_single (by decide) (by decide))
  obtain ⟨d2, q2, m2, c2, _⟩ := sub_near good_single n2 n4 3 (by rw [uE1]; unfold Cl at *; constructor <;> grind) (ex_single (by decide) (by decide))
  rw [lE1] at c1 c2
  have bd1 : Cl (V single u1 - V single v1) 0 8 := by unfold Cl at *; constructor <;> grind
  have bd2 : Cl (V single u2 - V single v2) 0 8 := by unfold Cl at *; constructor <;> grind
  obtain ⟨r1, r2, hm, ar1, ar2⟩ := mul_cl (A := 84 / 10) (C := 101 / 100) m1 m2 nc ns (by unfold Cl at *; constructor <;> grind) (by unfold Cl at *; constructor <;> grind) bc bs 5 (ex_double (by decide) (by decide)) (by rw [show p2 5 = 32 from by decide +kernel]; grind) (by rw [show ulp double 5 = 1 / 281474976710656 from by decide +kernel]; grind) (η := 1 / 100000000000) (by rw [show ulp double 5 = 1 / 281474976710656 from by decide +kernel]; grind) 5 (ex_single (by decide) (by decide)) (by rw [show p2 5 = 32 from by decide +kernel]; grind) (e' := 4 / 2000000) (by rw [show ulp single 5 = 1 / 524288 from by decide +kernel]; grind)
  -- the turned difference
  have w1 := c1.zero_of.prod bc
  have w2 := c2.zero_of.prod bs
  have w3 := c1.zero_of.prod bs
  have w4 := c2.zero_of.prod bc
  have cr1 : Cl (V single r1) ((V single u1 - V single v1) * V single c - (V single u2 - V single v2) * V single s) (4 / 1300000) := by have := ar1.cl; clear w3 w4 cpx cpy; unfold Cl at *; constructor <;> grind
  have cr2 : Cl (V single r2) ((V single u1 - V single v1) * V single s + (V single u2 - V single v2) * V single c) (4 / 1300000) := by have := ar2.cl; clear w1 w2 cpx cpy; unfold Cl at *; constructor <;> grind
  have x1 := bd1.prod bc
  have x2 := bd2.prod bs
  have x3 := bd1.prod bs
  have x4 := bd2.prod bc
  have bρ1 : Cl ((V single u1 - V single v1) * V single c - (V single u2 - V single v2) * V single s) 0 (1620 / 100) := by clear x3 x4 w1 w2 w3 w4 cr1 cr2 cpx cpy; unfold Cl at *; constructor <;> grind
  have bρ2 : Cl ((V single u1 - V single v1) * V single s + (V single u2 - V single v2) * V single c) 0 (1620 / 100) := by clear x1 x2 w1 w2 w3 w4 cr1 cr2 cpx cpy; unfold Cl at *; constructor <;> grind
  have M1 := mean_bd S h1 h3
  have M2 := mean_bd S h2 h4
  generalize (V single u1 - V single v1) * V single c - (V single u2 - V single v2) * V single s = ρ1 at *
  generalize (V single u1 - V single v1) * V single s + (V single u2 - V single v2) * V single c = ρ2 at *
  generalize κ2 * V single u1 + κ1 * V single v1 = P1 at *
  generalize κ2 * V single u2 + κ1 * V single v2 = P2 at *
  clear w1 w2 w3 w4 x1 x2 x3 x4 c1 c2 bd1 bd2
  -- the shares
  obtain ⟨m, q7, m7, c7, _⟩ := add_near good_single na nb 2 (by rw [u2']; unfold Cl; constructor <;> grind) (ex_single (by decide) (by decide))
  rw [l2'] at c7
  have mlo : 49 / 100 ≤ V single m := by unfold Cl at c7; grind
  have hm0 : V single m ≠ 0 := by grind
  have share : ∀ (x κ : Rat), 0 ≤ κ → κ ≤ 1 → κ * (V single ma + V single mb) = x → Cl (x * (V single m)⁻¹) κ (1 / 2000000) := fun x κ h0 h1 hx => by
    have e1 : x * (V single m)⁻¹ * V single m = x := by rw [Rat.mul_assoc, Rat.inv_mul_cancel _ hm0, Rat.mul_one]
    have e2 : (x * (V single m)⁻¹ - κ) * V single m = -(κ * (V single m - (V single ma + V single mb))) := by grind
    have bκ : Cl κ 0 1 := by unfold Cl; constructor <;> grind
    have w := bκ.prod c7.zero_of
    have := quo_bd (q := x * (V single m)⁻¹ - κ) (N := V single m) (B := 1 / 2000000) (by grind) e2 (by unfold Cl at *; constructor <;> grind)
    unfold Cl at *
    constructor <;> grind
  have κs := S.s
  have κ10 := S.p1
  have κ20 := S.p2
  have f1 := share _ κ1 S.p1 (by grind) S.h1
  have f2 := share _ κ2 S.p2 (by grind) S.h2
  obtain ⟨k1, q8, m8, c8, _⟩ := div_near good_single nb m7 hm0 1 (V single mb * (V single m)⁻¹) (by rw [Rat.mul_assoc, Rat.inv_mul_cancel _ hm0, Rat.mul_one]) (by rw [u1']; unfold Cl at f1 ⊢; constructor <;> grind) (ex_single (by decide) (by decide)) (by decide)
  obtain ⟨k2, q9, m9, c9, _⟩ := div_near good_single na m7 hm0 1 (V single ma * (V single m)⁻¹) (by rw [Rat.mul_assoc, Rat.inv_mul_cancel _ hm0, Rat.mul_one]) (by rw [u1']; unfold Cl at f2 ⊢; constructor <;> grind) (ex_single (by decide) (by decide)) (by decide)
  rw [l3'] at c8 c9
  have g1 : Cl (V single k1) κ1 (1 / 1000000) := (c8.trans f1).mono (by grind)
  have g2 : Cl (V single k2) κ2 (1 / 1000000) := (c9.trans f2).mono (by grind)
  clear c8 c9 f1 f2 share
  have bκ1 : Cl κ1 0 1 := by unfold Cl; constructor <;> grind
  have bκ2 : Cl κ2 0 1 := by unfold Cl; constructor <;> grind
  have fin : ∀ (r k p : Nat) (ρ κ P : Rat), Nm single r → Nm single k → Nm single p → Cl (V single r) ρ (4 / 1300000) → Cl ρ 0 (1620 / 100) → Cl (V single k) κ (1 / 1000000) → Cl κ 0 1 → Cl (V single p) P (1 / 80000) → Cl P 0 4 → ∃ x o t, floatBits .mul .f32 r k = some x ∧ floatBits .add .f32 p x = some o ∧ floatBits .sub .f32 p x = some t ∧ Nm single o ∧ Nm single t ∧ Cl (V single o) (P + κ * ρ) (1 / 15000) ∧ Cl (V single t) (P - κ * ρ) (1 / 15000) := by
    intro r k p ρ κ P nr nk np cr bρ ck bκ cp bP
    have pr := cr.mul ck bρ bκ
    have pb := bρ.prod bκ
    obtain ⟨x, z1, nx, cx, _⟩ := mul_near good_single nr nk 5 (by rw [uE3]; unfold Cl at *; constructor <;> grind) (ex_single (by decide) (by decide))
    rw [lE3] at cx
    have cx' : Cl (V single x) (ρ * κ) (1 / 40000) := (cx.trans pr).mono (by grind)
    clear cx pr cr ck
    obtain ⟨o, z2, no, co, _⟩ := add_near good_single np nx 5 (by rw [uE3]; unfold Cl at *; constructor <;> grind) (ex_single (by decide) (by decide))
    obtain ⟨t, z3, nt, ct, _⟩ := sub_near good_single np nx 5 (by rw [uE3]; unfold Cl at *; constructor <;> grind) (ex_single (by decide) (by decide))
    rw [lE3] at co ct
    exact ⟨x, o, t, z1, z2, z3, no, nt, by unfold Cl at *; constructor <;> grind, by unfold Cl at *; constructor <;> grind⟩
  obtain ⟨x1, o1, _, y1, y2, _, no1, _, co1, _⟩ := fin r1 k1 px ρ1 κ1 P1 ar1.nm m8 npx cr1 bρ1 g1 bκ1 cpx M1
  obtain ⟨x2, o2, _, y3, y4, _, no2, _, co2, _⟩ := fin r2 k1 py ρ2 κ1 P2 ar2.nm m8 npy cr2 bρ2 g1 bκ1 cpy M2
  obtain ⟨x3, _, t1, y5, _, y6, _, nt1, _, ct1⟩ := fin r1 k2 px ρ1 κ2 P1 ar1.nm m9 npx cr1 bρ1 g2 bκ2 cpx M1
  obtain ⟨x4, _, t2, y7, _, y8, _, nt2, _, ct2⟩ := fin r2 k2 py ρ2 κ2 P2 ar2.nm m9 npy cr2 bρ2 g2 bκ2 cpy M2
  exact ⟨o1, o2, t1, t2, ⟨d1, d2, r1, r2, m, k1, k2, x1, x2, x3, x4, q1, q2, hm, q7, q8, q9, y1, y3, y2, y4, y5, y7, y6, y8⟩, ⟨no1, no2, nt1, nt2⟩, co1, co2, ct1, ct2⟩
end Go.Proofs.Ytegojadabfeokaa
