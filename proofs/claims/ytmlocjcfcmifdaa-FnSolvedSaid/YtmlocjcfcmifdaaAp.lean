/- Plain: words of a format near ideal numbers, with bounds that are carried through operations. No condition on the program. -/
import Derived.Test.YtmlocjcfcmifdaaRv
namespace Go.Proofs.Ytmlocjcfcmifdaa
open Ieee

theorem Cl.nonneg {x y e : Rat} (h : Cl x y e) : 0 ≤ e := by unfold Cl at h; grind
theorem Cl.prod {a b α β : Rat} (h : Cl a 0 α) (g : Cl b 0 β) : Cl (a * b) 0 (α * β) := by
  have hα := h.nonneg
  have hβ := g.nonneg
  unfold Cl at *
  obtain ⟨h1, h2⟩ := h
  obtain ⟨g1, g2⟩ := g
  have p1 : 0 ≤ (α - a) * (β + b) := Rat.mul_nonneg (by grind) (by grind)
  have p2 : 0 ≤ (α + a) * (β - b) := Rat.mul_nonneg (by grind) (by grind)
  have p3 : 0 ≤ (α - a) * (β - b) := Rat.mul_nonneg (by grind) (by grind)
  have p4 : 0 ≤ (α + a) * (β + b) := Rat.mul_nonneg (by grind) (by grind)
  constructor <;> grind
theorem Cl.add {a b x y e d : Rat} (h : Cl a x e) (g : Cl b y d) : Cl (a + b) (x + y) (e + d) := by unfold Cl at *; grind
theorem Cl.sub {a b x y e d : Rat} (h : Cl a x e) (g : Cl b y d) : Cl (a - b) (x - y) (e + d) := by unfold Cl at *; grind
theorem Cl.neg {a x e : Rat} (h : Cl a x e) : Cl (-a) (-x) e := by unfold Cl at *; grind
theorem Cl.zero_of {a x e : Rat} (h : Cl a x e) : Cl (a - x) 0 e := by unfold Cl at *; grind
/-- A product of two that are near their ideals. -/
theorem Cl.mul {a b x y e d B C : Rat} (h : Cl a x e) (g : Cl b y d) (hx : Cl x 0 B) (hy : Cl y 0 C) : Cl (a * b) (x * y) (e * C + d * B + e * d) := by
  have q1 := h.zero_of.prod hy
  have q2 := hx.prod g.zero_of
  have q3 := h.zero_of.prod g.zero_of
  have e1 : a * b - x * y = (a - x) * y + x * (b - y) + (a - x) * (b - y) := by grind
  have q := (q1.add q2).add q3
  rw [← e1] at q
  unfold Cl at *
  constructor <;> grind

/-- A word near an ideal number v: no further than e; and v is no greater than B. -/
structure Ap (f : Format) (x : Nat) (v e B : Rat) : Prop where
  nm : Nm f x
  cl : Cl (V f x) v e
  bd : Cl v 0 B
theorem Ap.abs {f : Format} {x : Nat} {v e B : Rat} (h : Ap f x v e B) : Cl (V f x) 0 (B + e) := (h.cl.trans h.bd).mono (by grind)
theorem Ap.mono {f : Format} {x : Nat} {v e B e' B' : Rat} (h : Ap f x v e B) (he : e ≤ e') (hB : B ≤ B') : Ap f x v e' B' := ⟨h.nm, h.cl.mono he, h.bd.mono hB⟩
theorem Ap.self {f : Format} {x : Nat} {B : Rat} (h : Nm f x) (hB : Cl (V f x) 0 B) : Ap f x (V f x) 0 B := ⟨h, Cl.refl _ (by grind), hB⟩
/-- The word's own number as the ideal. -/
theorem Ap.own {f : Format} {x : Nat} {v e B : Rat} (h : Ap f x v e B) : Ap f x (V f x) 0 (B + e) := ⟨h.nm, Cl.refl _ (by grind), h.abs⟩
theorem Ap.e0 {f : Format} {x : Nat} {v e B : Rat} (h : Ap f x v e B) : 0 ≤ e := h.cl.nonneg
theorem Ap.B0 {f : Format} {x : Nat} {v e B : Rat} (h : Ap f x v e B) : 0 ≤ B := h.bd.nonneg
theorem Ap.eq {f : Format} {x : Nat} {v v' e B : Rat} (h : Ap f x v e B) (hv : v = v') : Ap f x v' e B := hv ▸ h
theorem Ap.wd {f : Format} (F : Fit f) (k : Nat) (n : Int) (hk : k + f.fractionBits ≤ 149) (hn : n.natAbs < 2 ^ (f.fractionBits + 1)) {B : Rat} (hB : Cl ((n : Rat) * p2 (-(k : Int))) 0 B) : Ap f (wd f k n) ((n : Rat) * p2 (-(k : Int))) 0 B := by
  obtain ⟨h1, h2⟩ := V_wd F k n hk hn
  exact ⟨h1, by rw [h2]; exact Cl.refl _ (by grind), hB⟩

section
variable {f : Format} (G : Good f)
include G
theorem Ap.add {x y : Nat} {v w e d B C : Rat} (h : Ap f x v e B) (g : Ap f y w d C) (E : Int) (X : Ex f E) {e' B' : Rat} (hE : B + e + (C + d) ≤ p2 E) (he : e + d + ulp f E ≤ e') (hB : B + C ≤ B') : ∃ r, f.add x y = some r ∧ Ap f r (v + w) e' B' := by
  have q := h.abs.add g.abs
  rw [show (0 : Rat) + 0 = 0 from by grind] at q
  obtain ⟨r, h1, h2, h3, _⟩ := add_near G h.nm g.nm E (q.mono hE) X
  have s := h.bd.add g.bd
  rw [show (0 : Rat) + 0 = 0 from by grind] at s
  exact ⟨r, h1, h2, (h3.trans (h.cl.add g.cl)).mono (by grind), s.mono hB⟩
theorem Ap.sub {x y : Nat} {v w e d B C : Rat} (h : Ap f x v e B) (g : Ap f y w d C) (E : Int) (X : Ex f E) {e' B' : Rat} (hE : B + e + (C + d) ≤ p2 E) (he : e + d + ulp f E ≤ e') (hB : B + C ≤ B') : ∃ r, f.sub x y = some r ∧ Ap f r (v - w) e' B' := by
  have q := h.abs.sub g.abs
  rw [show (0 : Rat) - 0 = 0 from by grind] at q
  obtain ⟨r, h1, h2, h3, _⟩ := sub_near G h.nm g.nm E (q.mono hE) X
  have s := h.bd.sub g.bd
  rw [show (0 : Rat) - 0 = 0 from by grind] at s
  exact ⟨r, h1, h2, (h3.trans (h.cl.sub g.cl)).mono (by grind), s.mono hB⟩
theorem Ap.mul {x y : Nat} {v w e d B C : Rat} (h : Ap f x v e B) (g : Ap f y w d C) (E : Int) (X : Ex f E) {e' B' : Rat} (hE : (B + e) * (C + d) ≤ p2 E) (he : e * C + d * B + e * d + ulp f E ≤ e') (hB : B * C ≤ B') : ∃ r, f.mul x y = some r ∧ Ap f r (v * w) e' B' := by
  obtain ⟨r, h1, h2, h3, _⟩ := mul_near G h.nm g.nm E ((h.abs.prod g.abs).mono hE) X
  exact ⟨r, h1, h2, (h3.trans (h.cl.mul g.cl h.bd g.bd)).mono (by grind), (h.bd.prod g.bd).mono hB⟩
/-- A quotient by a number that is no less than c. k bounds what the operands' errors bring. -/
theorem Ap.div {x y : Nat} {v w e d B C : Rat} (h : Ap f x v e B) (g : Ap f y w d C) (q Q c k : Rat) (hq : q * w = v) (hQ : Cl q 0 Q) (hc : c ≤ w) (hcd : d < c) (hk : e + Q * d ≤ k * (c - d)) (E : Int) (X : Ex f (E + 1)) (hw : (1 : Int) ≤ f.fractionBits) {e' : Rat} (hE : Q + k ≤ p2 E) (he : k + ulp f (E + 2) ≤ e') : ∃ r, f.div x y = some r ∧ Ap f r q e' Q := by
  have hd0 := g.e0
  have hy : c - d ≤ V f y := by have := g.cl; unfold Cl at this; grind
  have hy0 : V f y ≠ 0 := by grind
  have hyp : 0 < V f y := by grind
  have hQ0 := hQ.nonneg
  have hq' : (V f x * (V f y)⁻¹) * V f y = V f x := by
    rw [Rat.mul_assoc, Rat.inv_mul_cancel _ hy0, Rat.mul_one]
  have key : Cl (V f x * (V f y)⁻¹) q k := by
    have a1 := (h.cl.zero_of.sub (hQ.prod g.cl.zero_of))
    rw [show (0 : Rat) - 0 = 0 from by grind] at a1
    have e1 : (V f x - v) - q * (V f y - w) = (V f x * (V f y)⁻¹ - q) * V f y := by
      have : (V f x * (V f y)⁻¹ - q) * V f y = V f x - q * V f y := by grind
      rw [this]; grind
    rw [e1] at a1
    have hk0 : 0 ≤ k := by
      rcases Rat.le_total (a := 0) (b := k) with h0 | h0
      · exact h0
      · have h1 := h.e0
        have h2 := Rat.mul_nonneg hQ0 hd0
        have h3 : 0 ≤ (-k) * (c - d) := Rat.mul_nonneg (by grind) (by grind)
        have h4 : e + Q * d = 0 := by grind
        have h5 : k * (c - d) = 0 := by grind
        rcases Rat.mul_eq_zero.1 h5 with h6 | h6
        · rw [h6]; exact Rat.le_refl
        · exact absurd h6 (by grind)
    have h7 : k * (c - d) ≤ k * V f y := Rat.mul_le_mul_of_nonneg_left hy hk0
    have a2 := a1.mono (Rat.le_trans hk h7)
    have fin : ∀ z : Rat, z * V f y ≤ k * V f y → z ≤ k := fun z hz => by
      rcases Rat.le_total (a := z) (b := k) with h0 | h0
      · exact h0
      · have : (z - k) * V f y ≤ 0 := by grind
        have h9 : 0 ≤ (z - k) * V f y := Rat.mul_nonneg (by grind) (by grind)
        have h8 : (z - k) * V f y = 0 := by grind
        rcases Rat.mul_eq_zero.1 h8 with h6 | h6 <;> grind
    unfold Cl at a2 ⊢
    exact ⟨fin _ (by grind), fin _ (by grind)⟩
  obtain ⟨r, h1, h2, h3, _⟩ := div_near G h.nm g.nm hy0 E (V f x * (V f y)⁻¹) hq' ((key.trans hQ).mono (by grind)) X hw
  exact ⟨r, h1, h2, (h3.trans key).mono (by grind), hQ⟩
end

theorem Ap.widen {x : Nat} {v e B : Rat} (h : Ap single x v e B) : ∃ D, Go.floatToFloatBits .f32 x .f64 = some D ∧ Ap double D v e B := by
  obtain ⟨D, h1, h2, h3⟩ := widen_V h.nm
  exact ⟨D, h1, h2, by rw [h3]; exact h.cl, h.bd⟩
theorem Ap.narrow {x : Nat} {v e B : Rat} (h : Ap double x v e B) (E : Int) (X : Ex single E) {e' : Rat} (hE : B + e ≤ p2 E) (he : e + ulp single E ≤ e') : ∃ r, Go.floatToFloatBits .f64 x .f32 = some r ∧ Ap single r v e' B := by
  obtain ⟨r, h1, h2, h3, _⟩ := narrow_V h.nm E (h.abs.mono hE) X
  exact ⟨r, h1, h2, (h3.trans h.cl).mono (by grind), h.bd⟩
end Go.Proofs.Ytmlocjcfcmifdaa
