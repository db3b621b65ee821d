/- Plain: norms that stay near each other through many steps; lengths of scaled speeds. No program. -/
import Derived.Test.YtegojadabfeokaaBh
namespace Go.Proofs.Ytegojadabfeokaa
open Ieee Go
set_option linter.unusedVariables false

/-- A length as a number: no further than δ from the root of v. -/
structure LV (ℓ v δ : Rat) : Prop where
  pos : 0 ≤ ℓ
  low : ∀ z : Rat, 0 ≤ z → z * z ≤ v → z ≤ ℓ + δ
  high : ∀ z : Rat, 0 ≤ z → v ≤ z * z → ℓ ≤ z + δ
theorem Len.lv {L : Nat} {v δ : Rat} (h : Len L v δ) : LV (V single L) v δ := ⟨h.pos, h.low, h.high⟩
theorem LV.sq {ℓ v δ : Rat} (h : LV ℓ v δ) (hs : 0 ≤ ℓ + δ) : v ≤ (ℓ + δ) * (ℓ + δ) := by
  generalize hz : ℓ + δ = s at *
  by_cases hc : v ≤ s * s
  · exact hc
  · exfalso
    have g0 : 0 < v - s * s := by grind
    have hn : (2 * s + 1 + (v - s * s)) ≠ 0 := by grind
    obtain ⟨t, ht⟩ : ∃ t : Rat, t * (2 * s + 1 + (v - s * s)) = v - s * s := ⟨(v - s * s) * (2 * s + 1 + (v - s * s))⁻¹, by rw [Rat.mul_assoc, Rat.inv_mul_cancel _ hn, Rat.mul_one]⟩
    have t0 : 0 < t := by
      rcases Rat.le_total (a := t) (b := 0) with h0 | h0
      · have := Rat.mul_nonneg (a := -t) (b := 2 * s + 1 + (v - s * s)) (by grind) (by grind)
        grind
      · by_cases h1 : t = 0
        · rw [h1] at ht; grind
        · grind
    have t1 : t ≤ 1 := by
      rcases Rat.le_total (a := t) (b := 1) with h0 | h0
      · exact h0
      · have := Rat.mul_nonneg (a := t - 1) (b := 2 * s + 1 + (v - s * s)) (by grind) (by grind)
        grind
    have q1 := Rat.mul_nonneg (a := t) (b := v - s * s) (by grind) (by grind)
    have q2 := Rat.mul_nonneg (a := t) (b := 1 - t) (by grind) (by grind)
    have := h.low (s + t) (by grind) (by grind)
    grind
theorem LV.gap {ℓ k v δ ε : Rat} (h : LV ℓ v δ) (g : LV k v ε) (hδ : 0 ≤ δ) (hε : 0 ≤ ε) : Cl ℓ k (δ + ε) := by
  have h0 := h.pos
  have g0 := g.pos
  have a := h.high (k + ε) (by grind) (g.sq (by grind))
  have b := g.high (ℓ + δ) (by grind) (h.sq (by grind))
  unfold Cl
  constructor <;> grind
/-- Norms (squares of lengths) whose roots are no further apart than e. -/
def NR (v w e : Rat) : Prop := ∀ z : Rat, 0 ≤ z → (v ≤ z * z → w ≤ (z + e) * (z + e)) ∧ (w ≤ z * z → v ≤ (z + e) * (z + e))
theorem NR.trans {u v w d e : Rat} (h : NR u v d) (g : NR v w e) (hd : 0 ≤ d) (he : 0 ≤ e) : NR u w (d + e) := fun z z0 => by
  obtain ⟨h1, h2⟩ := h z z0
  obtain ⟨g1, g2⟩ := g z z0
  refine ⟨fun a => ?_, fun a => ?_⟩
  · have := (g (z + d) (by grind)).1 (h1 a)
    grind
  · have := (h (z + e) (by grind)).2 (g2 a)
    grind
theorem NR.mono {v w d e : Rat} (h : NR v w d) (he : d ≤ e) (hd : 0 ≤ d) : NR v w e := fun z z0 => by
  have q : (z + d) * (z + d) ≤ (z + e) * (z + e) := sq_mono (by grind) (by grind)
  exact ⟨fun a => Rat.le_trans ((h z z0).1 a) q, fun a => Rat.le_trans ((h z z0).2 a) q⟩
theorem NR.of {a b c d ε : Rat} (h1 : Cl a c ε) (h2 : Cl b d ε) : NR (a * a + b * b) (c * c + d * d) (2 * ε) := fun z z0 => by
  have e0 := h1.nonneg
  have e2 := bself_nonneg ε
  exact ⟨fun h => by have := up_sq z0 h h1 h2; grind, fun h => by have := up_sq z0 h h1.symm h2.symm; grind⟩
theorem NR.refl (v : Rat) : NR v v 0 := fun z z0 => ⟨fun h => by grind, fun h => by grind⟩
theorem LV.nr {ℓ v w δ e : Rat} (h : LV ℓ v δ) (g : NR v w e) (he : 0 ≤ e) (hδ : 0 ≤ δ) : LV ℓ w (δ + e) := by
  refine ⟨h.pos, fun z z0 hz => ?_, fun z z0 hz => ?_⟩
  · have s := h.sq (by have := h.pos; grind)
    have p := h.pos
    have := (g (ℓ + δ) (by grind)).1 s
    have := sq_le z0 (by grind) (Rat.le_trans hz this)
    grind
  · have := h.high (z + e) (by grind) ((g z z0).2 hz)
    grind
/-- All is made s times as great. -/
theorem LV.scale {ℓ v δ : Rat} (h : LV ℓ v δ) (s : Rat) (hs : 0 ≤ s) (hv : 0 ≤ v) : LV (ℓ * s) (v * (s * s)) (δ * s) := by
  have p := h.pos
  refine ⟨Rat.mul_nonneg p hs, fun z z0 hz => ?_, fun z z0 hz => ?_⟩
  · by_cases h0 : s = 0
    · subst h0
      have : z * z ≤ 0 := by grind
      have := sq_le z0 (b := 0) (by grind) (by grind)
      grind
    · have hi : s⁻¹ * s = 1 := Rat.inv_mul_cancel _ h0
      have i0 : 0 ≤ s⁻¹ := by
        rcases Rat.le_total (a := 0) (b := s⁻¹) with h1 | h1
        · exact h1
        · have := Rat.mul_nonneg (a := -s⁻¹) (b := s) (by grind) hs
          grind
      have q := Rat.mul_le_mul_of_nonneg_right hz (Rat.mul_nonneg i0 i0)
      have e1 : v * (s * s) * (s⁻¹ * s⁻¹) = v := by
        have : v * (s * s) * (s⁻¹ * s⁻¹) = v * ((s⁻¹ * s) * (s⁻¹ * s)) := by grind
        rw [this, hi]; grind
      have := h.low (z * s⁻¹) (Rat.mul_nonneg z0 i0) (by grind)
      have r := Rat.mul_le_mul_of_nonneg_right this hs
      have e2 : z * s⁻¹ * s = z := by rw [Rat.mul_assoc, hi, Rat.mul_one]
      grind
  · by_cases h0 : s = 0
    · subst h0; grind
    · have hi : s⁻¹ * s = 1 := Rat.inv_mul_cancel _ h0
      have i0 : 0 ≤ s⁻¹ := by
        rcases Rat.le_total (a := 0) (b := s⁻¹) with h1 | h1
        · exact h1
        · have := Rat.mul_nonneg (a := -s⁻¹) (b := s) (by grind) hs
          grind
      have q := Rat.mul_le_mul_of_nonneg_right hz (Rat.mul_nonneg i0 i0)
      have e1 : v * (s * s) * (s⁻¹ * s⁻¹) = v := by
        have : v * (s * s) * (s⁻¹ * s⁻¹) = v * ((s⁻¹ * s) * (s⁻¹ * s)) := by grind
        rw [this, hi]; grind
      have := h.high (z * s⁻¹) (Rat.mul_nonneg z0 i0) (by grind)
      have r := Rat.mul_le_mul_of_nonneg_right this hs
      have e2 : z * s⁻¹ * s = z := by rw [Rat.mul_assoc, hi, Rat.mul_one]
      grind
end Go.Proofs.Ytegojadabfeokaa
