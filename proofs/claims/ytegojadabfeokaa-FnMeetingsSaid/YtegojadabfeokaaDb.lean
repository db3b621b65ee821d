/- Plain: all that the law FnMeetings asks, told of words. No program. -/
import Derived.Test.YtegojadabfeokaaDa
import Derived.Test.YtegojadabfeokaaCa
namespace Go.Proofs.Ytegojadabfeokaa
open Ieee Go
set_option linter.unusedVariables false

def MomW (u1 u2 v1 v2 ma mb r1 r2 : Nat) : Prop := ∃ a1 a2 s1 s2 b1 b2, floatBits .mul .f32 u1 ma = some a1 ∧ floatBits .mul .f32 u2 ma = some a2 ∧ floatBits .add .f32 0 a1 = some s1 ∧ floatBits .add .f32 0 a2 = some s2 ∧ floatBits .mul .f32 v1 mb = some b1 ∧ floatBits .mul .f32 v2 mb = some b2 ∧ floatBits .add .f32 s1 b1 = some r1 ∧ floatBits .add .f32 s2 b2 = some r2
def EnW (u1 u2 v1 v2 ma mb X : Nat) : Prop := ∃ Ma Mb ha hb P1 P2 e1 e2 f1 f2, floatToFloatBits .f32 ma .f64 = some Ma ∧ floatBits .mul .f64 4602678819172646912 Ma = some ha ∧ PowW u1 u2 P1 ∧ floatBits .mul .f64 ha P1 = some e1 ∧ floatBits .add .f64 0 e1 = some f1 ∧ floatToFloatBits .f32 mb .f64 = some Mb ∧ floatBits .mul .f64 4602678819172646912 Mb = some hb ∧ PowW v1 v2 P2 ∧ floatBits .mul .f64 hb P2 = some e2 ∧ floatBits .add .f64 f1 e2 = some f2 ∧ floatToFloatBits .f64 f2 .f32 = some X
/-- A particle's numbers, by words, with bounds. -/
structure MIn (u1 u2 v1 v2 ma mb : Nat) (B : Rat) : Prop where
  n1 : Nm single u1
  n2 : Nm single u2
  n3 : Nm single v1
  n4 : Nm single v2
  na : Nm single ma
  nb : Nm single mb
  h1 : Cl (V single u1) 0 B
  h2 : Cl (V single u2) 0 B
  h3 : Cl (V single v1) 0 B
  h4 : Cl (V single v2) 0 B
  a0 : 1 / 4 ≤ V single ma
  a2 : V single ma ≤ 2
  b0 : 1 / 4 ≤ V single mb
  b2 : V single mb ≤ 2
theorem mom_near {u1 u2 v1 v2 ma mb : Nat} (I : MIn u1 u2 v1 v2 ma mb 6) : ∃ r1 r2, MomW u1 u2 v1 v2 ma mb r1 r2 ∧ Nm single r1 ∧ Nm single r2 ∧ Cl (V single r1) (V single u1 * V single ma + V single v1 * V single mb) (1 / 200000) ∧ Cl (V single r2) (V single u2 * V single ma + V single v2 * V single mb) (1 / 200000) := by
  have z := nm_zero
  have ba : Cl (V single ma) 0 2 := by have := I.a0; have := I.a2; unfold Cl; constructor <;> grind
  have bb : Cl (V single mb) 0 2 := by have := I.b0; have := I.b2; unfold Cl; constructor <;> grind
  have u4 : p2 4 = 16 := by decide +kernel
  have u5 : p2 5 = 32 := by decide +kernel
  have l4 : ulp single 4 = 1 / 1048576 := by decide +kernel
  have l5 : ulp single 5 = 1 / 524288 := by decide +kernel
  have one : ∀ u v : Nat, Nm single u → Nm single v → Cl (V single u) 0 6 → Cl (V single v) 0 6 → ∃ a s b r, floatBits .mul .f32 u ma = some a ∧ floatBits .add .f32 0 a = some s ∧ floatBits .mul .f32 v mb = some b ∧ floatBits .add .f32 s b = some r ∧ Nm single r ∧ Cl (V single r) (V single u * V single ma + V single v * V single mb) (1 / 200000) := by
    intro u v nu nv hu hv
    have p1 := hu.prod ba
    have p3 := hv.prod bb
    obtain ⟨a, q1, m1, c1, _⟩ := mul_near good_single nu I.na 4 (p1.mono (by rw [u4]; grind)) (ex_single (by decide) (by decide))
    obtain ⟨b, q2, m2, c2, _⟩ := mul_near good_single nv I.nb 4 (p3.mono (by rw [u4]; grind)) (ex_single (by decide) (by decide))
    rw [l4] at c1 c2
    obtain ⟨s, q3, m3, c3, _⟩ := add_near good_single z.1 m1 4 (by rw [u4, z.2]; unfold Cl at *; constructor <;> grind) (ex_single (by decide) (by decide))
    rw [l4, z.2] at c3
    obtain ⟨r, q4, m4, c4, _⟩ := add_near good_single m3 m2 5 (by rw [u5]; unfold Cl at *; constructor <;> grind) (ex_single (by decide) (by decide))
    rw [l5] at c4
    exact ⟨a, s, b, r, q1, q3, q2, q4, m4, by unfold Cl at *; constructor <;> grind⟩
  obtain ⟨a1, s1, b1, r1, q1, q2, q3, q4, n1, c1⟩ := one u1 v1 I.n1 I.n3 I.h1 I.h3
  obtain ⟨a2, s2, b2, r2, y1, y2, y3, y4, n2, c2⟩ := one u2 v2 I.n2 I.n4 I.h2 I.h4
  exact ⟨r1, r2, ⟨a1, a2, s1, s2, b1, b2, q1, y1, q2, y2, q3, y3, q4, y4⟩, n1, n2, c1, c2⟩
theorem nm_half64 : Nm double 4602678819172646912 ∧ V double 4602678819172646912 = 1 / 2 := ⟨⟨false, 4503599627370496, -53, by decide +kernel⟩, by decide +kernel⟩
theorem nm_zero64 : Nm double 0 ∧ V double 0 = 0 := ⟨⟨false, 0, -1074, by decide +kernel⟩, by decide +kernel⟩
theorem en_near {u1 u2 v1 v2 ma mb : Nat} (I : MIn u1 u2 v1 v2 ma mb 6) : ∃ X, EnW u1 u2 v1 v2 ma mb X ∧ Nm single X ∧ Cl (V single X) (V single ma / 2 * (V single u1 * V single u1 + V single u2 * V single u2) + V single mb / 2 * (V single v1 * V single v1 + V single v2 * V single v2)) (1 / 60000) := by
  have z := nm_zero64
  have hf := nm_half64
  have u0 : p2 0 = 1 := by decide +kernel
  have u7 : p2 7 = 128 := by decide +kernel
  have u8 : p2 8 = 256 := by decide +kernel
  have l0 : ulp double 0 ≤ 1 / 1000000000000 := by decide +kernel
  have l7 : ulp double 7 = 1 / 70368744177664 := by decide +kernel
  have l8 : ulp double 8 ≤ 1 / 1000000000000 := by decide +kernel
  have s8 : ulp single 8 = 1 / 65536 := by decide +kernel
  have one : ∀ u v m : Nat, Nm single u → Nm single v → Cl (V single u) 0 6 → Cl (V single v) 0 6 → Nm single m → 1 / 4 ≤ V single m → V single m ≤ 2 → ∃ M h P e, floatToFloatBits .f32 m .f64 = some M ∧ floatBits .mul .f64 4602678819172646912 M = some h ∧ PowW u v P ∧ floatBits .mul .f64 h P = some e ∧ Nm double e ∧ Cl (V double e) (V single m / 2 * (V single u * V single u + V single v * V single v)) (1 / 1000000000) ∧ Cl (V single m / 2 * (V single u * V single u + V single v * V single v)) 0 72 := by
    intro u v m nu nv hu hv nm m0 m2
    obtain ⟨M, q1, n1, v1⟩ := widen_V nm
    obtain ⟨h, q2, n2, c2, _⟩ := mul_near good_double hf.1 n1 0 (by rw [hf.2, v1, u0]; unfold Cl; constructor <;> grind) (ex_double (by decide) (by decide))
    rw [hf.2, v1] at c2
    obtain ⟨P, q3, a3, _, _⟩ := pow_near nu nv hu hv 7 (ex_double (by decide) (by decide)) (by rw [u7]; grind) (by rw [l7]; grind) (η := 1 / 1000000000000) (by rw [l7]; grind)
    have bm : Cl (V single m / 2) 0 1 := by unfold Cl; constructor <;> grind
    have c2' : Cl (V double h) (V single m / 2) (1 / 1000000000000) := by unfold Cl at *; constructor <;> grind
    have pr := c2'.mul a3.cl bm a3.bd
    have pb := bm.prod a3.bd
    obtain ⟨e, q4, n4, c4, _⟩ := mul_near good_double n2 a3.nm 7 (by rw [u7]; unfold Cl at *; constructor <;> grind) (ex_double (by decide) (by decide))
    exact ⟨M, h, P, e, q1, q2, q3, q4, n4, by rw [l7] at c4; unfold Cl at *; constructor <;> grind, pb.mono (by grind)⟩
  obtain ⟨Ma, ha, P1, e1, q1, q2, q3, q4, n1, c1, b1⟩ := one u1 u2 ma I.n1 I.n2 I.h1 I.h2 I.na I.a0 I.a2
  obtain ⟨Mb, hb, P2, e2, y1, y2, y3, y4, n2, c2, b2⟩ := one v1 v2 mb I.n3 I.n4 I.h3 I.h4 I.nb I.b0 I.b2
  obtain ⟨f1, q5, n5, c5, _⟩ := add_near good_double z.1 n1 7 (by rw [u7, z.2]; unfold Cl at *; constructor <;> grind) (ex_double (by decide) (by decide))
  rw [z.2, l7] at c5
  obtain ⟨f2, q6, n6, c6, _⟩ := add_near good_double n5 n2 8 (by rw [u8]; unfold Cl at *; constructor <;> grind) (ex_double (by decide) (by decide))
  obtain ⟨X, q7, n7, c7, _⟩ := narrow_V n6 8 (by rw [u8]; unfold Cl at *; constructor <;> grind) (ex_single (by decide) (by decide))
  rw [s8] at c7
  exact ⟨X, ⟨Ma, Mb, ha, hb, P1, P2, e1, e2, f1, f2, q1, q2, q3, q4, q5, y1, y2, y3, y4, q6, q7⟩, n7, by unfold Cl at *; constructor <;> grind⟩

/-! ### Lengths of nearly the same norm -/
theorem nr_scale {N σ : Rat} (h0 : 0 ≤ N) (h8 : N ≤ 9) (hσ : Cl σ 1 (1 / 1000000)) : NR N (N * σ) (1 / 100000) := fun z z0 => by
  have s0 : 0 ≤ σ := by unfold Cl at hσ; grind
  have q1 := Rat.mul_nonneg h0 (b := σ - (1 - 1 / 1000000)) (by unfold Cl at hσ; grind)
  have q2 := Rat.mul_nonneg h0 (b := (1 + 1 / 1000000) - σ) (by unfold Cl at hσ; grind)
  have zz := bself_nonneg z
  rcases Rat.le_total (a := z) (b := 4) with hz | hz
  · have w := Rat.mul_nonneg z0 (b := 4 - z) (by grind)
    refine ⟨fun h => ?_, fun h => ?_⟩
    · grind
    · grind
  · have w := Rat.mul_nonneg (a := z - 4) (b := z + 4) (by grind) (by grind)
    exact ⟨fun h => by grind, fun h => by grind⟩
end Go.Proofs.Ytegojadabfeokaa
