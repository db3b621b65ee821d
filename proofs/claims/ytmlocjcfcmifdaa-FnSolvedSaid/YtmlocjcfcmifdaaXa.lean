/- Plain: total operations on words of single precision, and equations of rows, solved one after another: what is found solves them, nearly. No program. -/
import Derived.Test.YtmlocjcfcmifdaaAp
namespace Go.Proofs.Ytmlocjcfcmifdaa
open Ieee
set_option linter.unusedVariables false

def sA (x y : Nat) : Nat := (single.add x y).getD 0
def sS (x y : Nat) : Nat := (single.sub x y).getD 0
def sM (x y : Nat) : Nat := (single.mul x y).getD 0
def sD (x y : Nat) : Nat := (single.div x y).getD 0

/-- A word of a number that is no greater than B. -/
structure Wn (x : Nat) (B : Rat) : Prop where
  nm : Nm single x
  bd : Cl (V single x) 0 B
theorem Wn.mono {x : Nat} {B C : Rat} (h : Wn x B) (hB : B ≤ C) : Wn x C := ⟨h.nm, h.bd.mono hB⟩
theorem Wn.nonneg {x : Nat} {B : Rat} (h : Wn x B) : 0 ≤ B := h.bd.nonneg

theorem Cl.mk_self {x : Rat} (h : 0 < x) : Cl x 0 x := by unfold Cl; constructor <;> grind

theorem sA_near {x y : Nat} {B C : Rat} (hx : Wn x B) (hy : Wn y C) (E : Int) (h : B + C ≤ p2 E) (X : Ex single E) : floatBits .add .f32 x y = some (sA x y) ∧ Wn (sA x y) (B + C + ulp single E) ∧ Cl (V single (sA x y)) (V single x + V single y) (ulp single E) := by
  have b := hx.bd.add hy.bd
  rw [show (0 : Rat) + 0 = 0 from by grind] at b
  obtain ⟨r, h1, h2, h3, _⟩ := add_near good_single hx.nm hy.nm E (b.mono h) X
  have e : sA x y = r := by unfold sA; rw [h1]; rfl
  rw [e]
  exact ⟨h1, ⟨h2, (h3.trans b).mono (by grind)⟩, h3⟩
theorem sS_near {x y : Nat} {B C : Rat} (hx : Wn x B) (hy : Wn y C) (E : Int) (h : B + C ≤ p2 E) (X : Ex single E) : floatBits .sub .f32 x y = some (sS x y) ∧ Wn (sS x y) (B + C + ulp single E) ∧ Cl (V single (sS x y)) (V single x - V single y) (ulp single E) := by
  have b := hx.bd.sub hy.bd
  rw [show (0 : Rat) - 0 = 0 from by grind] at b
  obtain ⟨r, h1, h2, h3, _⟩ := sub_near good_single hx.nm hy.nm E (b.mono h) X
  have e : sS x y = r := by unfold sS; rw [h1]; rfl
  rw [e]
  exact ⟨h1, ⟨h2, (h3.trans b).mono (by grind)⟩, h3⟩
theorem sM_near {x y : Nat} {B C : Rat} (hx : Wn x B) (hy : Wn y C) (E : Int) (h : B * C ≤ p2 E) (X : Ex single E) : floatBits .mul .f32 x y = some (sM x y) ∧ Wn (sM x y) (B * C + ulp single E) ∧ Cl (V single (sM x y)) (V single x * V single y) (ulp single E) := by
  have b := hx.bd.prod hy.bd
  obtain ⟨r, h1, h2, h3, _⟩ := mul_near good_single hx.nm hy.nm E (b.mono h) X
  have e : sM x y = r := by unfold sM; rw [h1]; rfl
  rw [e]
  exact ⟨h1, ⟨h2, (h3.trans b).mono (by grind)⟩, h3⟩
theorem cl_of_mul {q N B : Rat} (hN : 0 < N) (h : Cl (q * N) 0 (B * N)) : Cl q 0 B := by
  have key : ∀ a : Rat, a * N ≤ B * N → a ≤ B := fun a ha => by
    rcases Rat.le_total (a := a) (b := B) with h0 | h0
    · exact h0
    · have h9 : 0 ≤ (a - B) * N := Rat.mul_nonneg (by grind) (by grind)
      have h8 : (a - B) * N = 0 := by grind
      rcases Rat.mul_eq_zero.1 h8 with h6 | h6 <;> grind
  unfold Cl at *
  have h1 := key q (by grind)
  have h2 := key (-q) (by grind)
  constructor <;> grind
theorem sD_near {x y : Nat} (hx : Nm single x) (hy : Nm single y) (c : Rat) (hc : 0 < c) (hyc : c ≤ V single y) (Q : Rat) (hQ0 : 0 ≤ Q) (hQ : Cl (V single x) 0 (Q * c)) (E : Int) (hE : Q ≤ p2 E) (X : Ex single (E + 1)) :
    floatBits .quo .f32 x y = some (sD x y) ∧ Wn (sD x y) (Q + ulp single (E + 2)) ∧ Cl (V single (sD x y) * V single y) (V single x) (ulp single (E + 2) * V single y) := by
  have hy0 : V single y ≠ 0 := by grind
  have hp : 0 < V single y := by grind
  have hq : (V single x * (V single y)⁻¹) * V single y = V single x := by
    rw [Rat.mul_assoc, Rat.inv_mul_cancel _ hy0, Rat.mul_one]
  have m1 : Q * c ≤ Q * V single y := Rat.mul_le_mul_of_nonneg_left hyc hQ0
  have bq : Cl (V single x * (V single y)⁻¹) 0 Q := cl_of_mul hp (by rw [hq]; exact hQ.mono m1)
  obtain ⟨r, h1, h2, h3, _⟩ := div_near good_single hx hy hy0 E _ hq (bq.mono hE) X (by decide)
  have e : sD x y = r := by unfold sD; rw [h1]; rfl
  rw [e]
  refine ⟨h1, ⟨h2, (h3.trans bq).mono (by grind)⟩, ?_⟩
  have g := h3.zero_of.prod (Cl.mk_self hp)
  have e2 : (V single r - V single x * (V single y)⁻¹) * V single y = V single r * V single y - V single x := by
    have : (V single r - V single x * (V single y)⁻¹) * V single y = V single r * V single y - (V single x * (V single y)⁻¹) * V single y := by grind
    rw [this, hq]
  rw [e2] at g
  unfold Cl at *
  constructor <;> grind

/-- Equations of a row: what is done, one step after another. -/
structure RowW (n : Nat) (l m u r t mm s rr c d w x : Nat → Nat) : Prop where
  m0 : mm 0 = m 0
  r0 : rr 0 = r 0
  ft : ∀ k, k + 1 < n → floatBits .mul .f32 (l (k + 1)) (c k) = some (t (k + 1))
  fm : ∀ k, k + 1 < n → floatBits .sub .f32 (m (k + 1)) (t (k + 1)) = some (mm (k + 1))
  fs : ∀ k, k + 1 < n → floatBits .mul .f32 (l (k + 1)) (d k) = some (s (k + 1))
  fr : ∀ k, k + 1 < n → floatBits .sub .f32 (r (k + 1)) (s (k + 1)) = some (rr (k + 1))
  pos : ∀ k, k < n → Nm single (mm k) ∧ 0 < V single (mm k)
  fc : ∀ k, k < n → floatBits .quo .f32 (u k) (mm k) = some (c k)
  fd : ∀ k, k < n → floatBits .quo .f32 (rr k) (mm k) = some (d k)
  xe : x (n - 1) = d (n - 1)
  fw : ∀ k, k + 1 < n → floatBits .mul .f32 (c k) (x (k + 1)) = some (w k)
  fx : ∀ k, k + 1 < n → floatBits .sub .f32 (d k) (w k) = some (x k)

/-- What a row's numbers are: bounds. -/
structure RowIn (n : Nat) (l m u r : Nat → Nat) (μ γ R D X : Rat) (E : Int) : Prop where
  n0 : 0 < n
  hl : ∀ k, k < n → Wn (l k) 1
  hu : ∀ k, k < n → Wn (u k) 1
  hm : ∀ k, k < n → Nm single (m k) ∧ μ ≤ V single (m k) ∧ V single (m k) ≤ 8
  hr : ∀ k, k < n → 0 < k → Wn (r k) R
  nr0 : Nm single (r 0)
  h0 : Cl (V single (r 0)) 0 ((D - 4 * ulp single E) * V single (m 0))
  g0 : 0 < γ
  g1 : γ ≤ 1 / 2
  mu : 2 ≤ μ
  R0 : 0 ≤ R
  gm : 1 ≤ (γ - 1 / 1048576) * (μ - γ - 1 / 524288)
  dd : R + D + 2 * ulp single E ≤ (D - 4 * ulp single E) * (μ - γ - 1 / 524288)
  xx : D + γ * X + 2 * ulp single E ≤ X
  D0 : 4 * ulp single E ≤ D
  X1 : X ≤ p2 E
  D1 : R + D + 1 ≤ p2 E
  u1 : 4 * ulp single E ≤ 1
  e0 : -100 ≤ E
  e1 : E ≤ 100

def rC (l m u : Nat → Nat) : Nat → Nat
  | 0 => sD (u 0) (m 0)
  | k + 1 => sD (u (k + 1)) (sS (m (k + 1)) (sM (l (k + 1)) (rC l m u k)))
def rM (l m u : Nat → Nat) : Nat → Nat
  | 0 => m 0
  | k + 1 => sS (m (k + 1)) (sM (l (k + 1)) (rC l m u k))
theorem rC_eq (l m u : Nat → Nat) (k : Nat) : rC l m u k = sD (u k) (rM l m u k) := by cases k <;> rfl
def rD (l m u r : Nat → Nat) : Nat → Nat
  | 0 => sD (r 0) (m 0)
  | k + 1 => sD (sS (r (k + 1)) (sM (l (k + 1)) (rD l m u r k))) (rM l m u (k + 1))
def rR (l m u r : Nat → Nat) : Nat → Nat
  | 0 => r 0
  | k + 1 => sS (r (k + 1)) (sM (l (k + 1)) (rD l m u r k))
theorem rD_eq (l m u r : Nat → Nat) (k : Nat) : rD l m u r k = sD (rR l m u r k) (rM l m u k) := by cases k <;> rfl
def rXj (l m u r : Nat → Nat) (n : Nat) : Nat → Nat
  | 0 => rD l m u r (n - 1)
  | j + 1 => sS (rD l m u r (n - 1 - (j + 1))) (sM (rC l m u (n - 1 - (j + 1))) (rXj l m u r n j))
def rX (l m u r : Nat → Nat) (n k : Nat) : Nat := rXj l m u r n (n - 1 - k)

theorem xup (E : Int) : ulp single E * 4 = ulp single (E + 2) := by
  unfold ulp
  rw [show E + 2 - (single.fractionBits : Int) - 1 = (E - single.fractionBits - 1) + 1 + 1 by omega, p2_succ, p2_succ]
  grind

section
variable {n : Nat} {l m u r : Nat → Nat} {μ γ R D X : Rat} {E : Int} (H : RowIn n l m u r μ γ R D X E)
include H

/-- The factors. -/
theorem RowIn.fac : ∀ k, k < n → Nm single (rM l m u k) ∧ μ - γ - 1 / 524288 ≤ V single (rM l m u k) ∧ V single (rM l m u k) ≤ 9 ∧ floatBits .quo .f32 (u k) (rM l m u k) = some (rC l m u k) ∧ Wn (rC l m u k) γ ∧ Cl (V single (rC l m u k) * V single (rM l m u k)) (V single (u k)) (9 / 1048576)
    ∧ (∀ j, k = j + 1 → floatBits .mul .f32 (l k) (rC l m u j) = some (sM (l k) (rC l m u j)) ∧ floatBits .sub .f32 (m k) (sM (l k) (rC l m u j)) = some (rM l m u k) ∧ Cl (V single (sM (l k) (rC l m u j))) (V single (l k) * V single (rC l m u j)) (1 / 1048576) ∧ Cl (V single (rM l m u k)) (V single (m k) - V single (sM (l k) (rC l m u j))) (1 / 1048576)) := by
  have s1 : ulp single 1 = 1 / 8388608 := by decide +kernel
  have s4 : ulp single 4 = 1 / 1048576 := by decide +kernel
  have sm : ulp single 0 = 1 / 16777216 := by decide +kernel
  have q4 : p2 4 = 16 := by decide +kernel
  have qm : p2 (-1) = 1 / 2 := by decide +kernel
  have q0 : p2 0 = 1 := by decide +kernel
  have g0 := H.g0
  have g1 := H.g1
  have gm := H.gm
  have mu := H.mu
  have quo : ∀ k, k < n → Nm single (rM l m u k) → μ - γ - 1 / 524288 ≤ V single (rM l m u k) → V single (rM l m u k) ≤ 9 → floatBits .quo .f32 (u k) (rM l m u k) = some (rC l m u k) ∧ Wn (rC l m u k) γ ∧ Cl (V single (rC l m u k) * V single (rM l m u k)) (V single (u k)) (9 / 1048576) := by
    intro k hk nm lo hi
    have hc : 0 < μ - γ - 1 / 524288 := by grind
    have hu := H.hu k hk
    have gp : 0 ≤ γ - 1 / 1048576 := by
      rcases Rat.le_total (a := 0) (b := γ - 1 / 1048576) with h | h
      · exact h
      · have : 0 ≤ (-(γ - 1 / 1048576)) * (μ - γ - 1 / 524288) := Rat.mul_nonneg (by grind) (by grind)
        grind
    obtain ⟨a, b, c⟩ := sD_near hu.nm nm (μ - γ - 1 / 524288) hc lo (γ - 1 / 1048576) gp (hu.bd.mono gm) (-1) (by rw [qm]; grind) (ex_single (by decide) (by decide))
    rw [← rC_eq] at a b c
    have s1' : ulp single (-1 + 2) = 1 / 8388608 := s1
    rw [s1'] at b c
    exact ⟨a, b.mono (by grind), c.mono (by grind)⟩
  intro k
  induction k with
  | zero =>
    intro hk
    obtain ⟨a, b, c⟩ := H.hm 0 hk
    have e : rM l m u 0 = m 0 := rfl
    have z := quo 0 hk a (by rw [e]; grind) (by rw [e]; grind)
    rw [e] at z ⊢
    exact ⟨a, by grind, by grind, z.1, z.2.1, z.2.2, fun j hj => by omega⟩
  | succ k ih =>
    intro hk
    obtain ⟨_, _, _, _, wc, _, _⟩ := ih (by omega)
    obtain ⟨a, b, c⟩ := H.hm (k + 1) hk
    obtain ⟨t1, t2, t3⟩ := sM_near (H.hl (k + 1) hk) wc 0 (by rw [q0]; grind) (ex_single (by decide) (by decide))
    rw [sm] at t2 t3
    obtain ⟨v1, v2, v3⟩ := sS_near (B := 8) ⟨a, by unfold Cl; grind⟩ t2 4 (by rw [q4]; grind) (ex_single (by decide) (by decide))
    rw [s4] at v2 v3
    have e : rM l m u (k + 1) = sS (m (k + 1)) (sM (l (k + 1)) (rC l m u k)) := rfl
    rw [← e] at v1 v2 v3
    have bt := t2.bd
    have lo : μ - γ - 1 / 524288 ≤ V single (rM l m u (k + 1)) := by unfold Cl at bt v3; grind
    have hi : V single (rM l m u (k + 1)) ≤ 9 := by unfold Cl at bt v3; grind
    have z := quo (k + 1) hk v2.nm lo hi
    exact ⟨v2.nm, lo, hi, z.1, z.2.1, z.2.2, fun j hj => by
      obtain rfl : k = j := by omega
      exact ⟨t1, v1, t3.mono (by grind), v3⟩⟩

/-- What stands on the right. -/
theorem RowIn.rest : ∀ k, k < n → floatBits .quo .f32 (rR l m u r k) (rM l m u k) = some (rD l m u r k) ∧ Wn (rD l m u r k) D ∧ Cl (V single (rD l m u r k) * V single (rM l m u k)) (V single (rR l m u r k)) (36 * ulp single E)
    ∧ (∀ j, k = j + 1 → floatBits .mul .f32 (l k) (rD l m u r j) = some (sM (l k) (rD l m u r j)) ∧ floatBits .sub .f32 (r k) (sM (l k) (rD l m u r j)) = some (rR l m u r k) ∧ Cl (V single (sM (l k) (rD l m u r j))) (V single (l k) * V single (rD l m u r j)) (ulp single E) ∧ Cl (V single (rR l m u r k)) (V single (r k) - V single (sM (l k) (rD l m u r j))) (ulp single E)) := by
  have up := xup E
  have u0 := ulp_pos single E
  have hdd := H.dd
  have D0 := H.D0
  have D1 := H.D1
  have u1 := H.u1
  have mu := H.mu
  have g1 := H.g1
  have R0 := H.R0
  have xE : Ex single E := ex_single (by have := H.e0; omega) (by have := H.e1; omega)
  have xE1 : Ex single (E + 1) := ex_single (by have := H.e0; omega) (by have := H.e1; omega)
  have fin : ∀ k, k < n → ∀ c : Rat, 0 < c → c ≤ V single (rM l m u k) → Nm single (rR l m u r k) → Cl (V single (rR l m u r k)) 0 ((D - 4 * ulp single E) * c) → floatBits .quo .f32 (rR l m u r k) (rM l m u k) = some (rD l m u r k) ∧ Wn (rD l m u r k) D ∧ Cl (V single (rD l m u r k) * V single (rM l m u k)) (V single (rR l m u r k)) (36 * ulp single E) := by
    intro k hk c hc hcm nr hr
    obtain ⟨f1, f2, f3, _⟩ := H.fac k hk
    obtain ⟨a, b, d⟩ := sD_near nr f1 c hc hcm (D - 4 * ulp single E) (by grind) hr E (by grind) xE1
    rw [← rD_eq, ← up] at *
    refine ⟨a, b.mono (by grind), d.mono ?_⟩
    have : ulp single E * V single (rM l m u k) ≤ ulp single E * 9 := Rat.mul_le_mul_of_nonneg_left f3 (by grind)
    grind
  intro k
  induction k with
  | zero =>
    intro hk
    obtain ⟨_, b, _⟩ := H.hm 0 hk
    have e : rM l m u 0 = m 0 := rfl
    have z := fin 0 hk (V single (m 0)) (by grind) (by rw [e]; exact Rat.le_refl) H.nr0 H.h0
    exact ⟨z.1, z.2.1, z.2.2, fun j hj => by omega⟩
  | succ k ih =>
    intro hk
    obtain ⟨_, wd, _, _⟩ := ih (by omega)
    obtain ⟨f1, f2, f3, _⟩ := H.fac (k + 1) hk
    obtain ⟨t1, t2, t3⟩ := sM_near (H.hl (k + 1) hk) wd E (by grind) xE
    obtain ⟨v1, v2, v3⟩ := sS_near (H.hr (k + 1) hk (by omega)) t2 E (by grind) xE
    have e : rR l m u r (k + 1) = sS (r (k + 1)) (sM (l (k + 1)) (rD l m u r k)) := rfl
    rw [← e] at v1 v2 v3
    have z := fin (k + 1) hk (μ - γ - 1 / 524288) (by grind) f2 v2.nm (v2.bd.mono (by grind))
    exact ⟨z.1, z.2.1, z.2.2, fun j hj => by
      obtain rfl : k = j := by omega
      exact ⟨t1, v1, t3, v3⟩⟩

/-- Backwards. -/
theorem RowIn.back : ∀ j, j < n → Wn (rXj l m u r n j) X ∧ (∀ i, j = i + 1 → floatBits .mul .f32 (rC l m u (n - 1 - j)) (rXj l m u r n i) = some (sM (rC l m u (n - 1 - j)) (rXj l m u r n i)) ∧ floatBits .sub .f32 (rD l m u r (n - 1 - j)) (sM (rC l m u (n - 1 - j)) (rXj l m u r n i)) = some (rXj l m u r n j) ∧ Cl (V single (sM (rC l m u (n - 1 - j)) (rXj l m u r n i))) (V single (rC l m u (n - 1 - j)) * V single (rXj l m u r n i)) (ulp single E) ∧ Cl (V single (rXj l m u r n j)) (V single (rD l m u r (n - 1 - j)) - V single (sM (rC l m u (n - 1 - j)) (rXj l m u r n i))) (ulp single E)) := by
  have u0 := ulp_pos single E
  have xx := H.xx
  have X1 := H.X1
  have g0 := H.g0
  have D0 := H.D0
  have n0 := H.n0
  have xE : Ex single E := ex_single (by have := H.e0; omega) (by have := H.e1; omega)
  intro j
  induction j with
  | zero =>
    intro hj
    obtain ⟨_, wd, _⟩ := H.rest (n - 1) (by omega)
    have X0 : 0 ≤ X := by
      rcases Rat.le_total (a := 0) (b := X) with h | h
      · exact h
      · have h1 := H.g1
        have : 0 ≤ (1 - γ) * (-X) := Rat.mul_nonneg (by grind) (by grind)
        grind
    have gx : 0 ≤ γ * X := Rat.mul_nonneg (by grind) X0
    exact ⟨wd.mono (by grind), fun i hi => by omega⟩
  | succ j ih =>
    intro hj
    obtain ⟨wx, _⟩ := ih (by omega)
    obtain ⟨_, wd, _⟩ := H.rest (n - 1 - (j + 1)) (by omega)
    obtain ⟨_, _, _, _, wc, _⟩ := H.fac (n - 1 - (j + 1)) (by omega)
    have X0 := wx.nonneg
    have h1 := H.g1
    have dn := wd.nonneg
    have gx : 0 ≤ γ * X := Rat.mul_nonneg (by grind) X0
    have gx2 : 0 ≤ (1 - γ) * X := Rat.mul_nonneg (by grind) X0
    obtain ⟨t1, t2, t3⟩ := sM_near wc wx E (by grind) xE
    obtain ⟨v1, v2, v3⟩ := sS_near wd t2 E (by grind) xE
    exact ⟨v2.mono (by grind), fun i hi => by
      obtain rfl : j = i := by omega
      exact ⟨t1, v1, t3, v3⟩⟩
end

/-- What is left of an equation, from what each step leaves. -/
theorem row_res {m l u r mm t c0 d0 s rr c d w x w0 x0 x1 X δ e : Rat} (_hX : 0 ≤ X)
    (ht : Cl t (l * c0) δ) (hm : Cl mm (m - t) δ) (hs : Cl s (l * d0) e) (hr : Cl rr (r - s) e) (hc : Cl (c * mm) u (9 * δ)) (hd : Cl (d * mm) rr (36 * e)) (hw : Cl w (c * x1) e) (hx : Cl x (d - w) e) (hw0 : Cl w0 (c0 * x) e) (hx0 : Cl x0 (d0 - w0) e)
    (bx : Cl x 0 X) (bx1 : Cl x1 0 X) (bm : Cl mm 0 9) (bl : Cl l 0 1) : Cl (m * x + l * x0 + u * x1) r (11 * (δ * X) + 58 * e) := by
  have key : m * x + l * x0 + u * x1 - r = (t - l * c0) * x - (mm - (m - t)) * x + (d * mm - rr) - (c * mm - u) * x1 + (x - (d - w)) * mm - (w - c * x1) * mm - (s - l * d0) + (rr - (r - s)) + l * (x0 - (d0 - w0)) - l * (w0 - c0 * x) := by grind
  have a1 := ht.zero_of.prod bx
  have a2 := hm.zero_of.prod bx
  have a3 := hc.zero_of.prod bx1
  have a4 := hx.zero_of.prod bm
  have a5 := hw.zero_of.prod bm
  have a6 := bl.prod hx0.zero_of
  have a7 := bl.prod hw0.zero_of
  generalize (t - l * c0) * x = b1 at *
  generalize (mm - (m - t)) * x = b2 at *
  generalize (c * mm - u) * x1 = b3 at *
  generalize (x - (d - w)) * mm = b4 at *
  generalize (w - c * x1) * mm = b5 at *
  generalize l * (x0 - (d0 - w0)) = b6 at *
  generalize l * (w0 - c0 * x) = b7 at *
  have c3 := hd.zero_of
  have c4 := hs.zero_of
  have c5 := hr.zero_of
  generalize d * mm - rr = b8 at *
  generalize s - l * d0 = b9 at *
  generalize rr - (r - s) = b10 at *
  clear ht hm hs hr hc hd hw hx hw0 hx0
  have g : Cl (m * x + l * x0 + u * x1 - r) 0 (11 * (δ * X) + 58 * e) := by
    rw [key]
    unfold Cl at *
    constructor <;> grind
  unfold Cl at *
  constructor <;> grind

/-- What has been told of a row that is solved. -/
structure RowD (n : Nat) (l m u r x : Nat → Nat) (X ε : Rat) : Prop where
  hx : ∀ k, k < n → Wn (x k) X
  res : ∀ k, k < n → Cl (V single (m k) * V single (x k) + (if 0 < k then V single (l k) * V single (x (k - 1)) else 0) + (if k + 1 < n then V single (u k) * V single (x (k + 1)) else 0)) (V single (r k)) ε

theorem row_any {n : Nat} {l m u r : Nat → Nat} {μ γ R D X : Rat} {E : Int} (H : RowIn n l m u r μ γ R D X E) :
    ∃ t mm s rr c d w x, RowW n l m u r t mm s rr c d w x ∧ RowD n l m u r x X (11 * (1 / 1048576 * X) + 58 * ulp single E) ∧ (c = rC l m u) ∧ (∀ k, k < n → Wn (d k) D) ∧ (∀ k, k + 1 < n → Cl (V single (w k)) (V single (c k) * V single (x (k + 1))) (ulp single E) ∧ Cl (V single (x k)) (V single (d k) - V single (w k)) (ulp single E)) := by
  have n0 := H.n0
  have bk : ∀ k, k + 1 < n → floatBits .mul .f32 (rC l m u k) (rX l m u r n (k + 1)) = some (sM (rC l m u k) (rX l m u r n (k + 1))) ∧ floatBits .sub .f32 (rD l m u r k) (sM (rC l m u k) (rX l m u r n (k + 1))) = some (rX l m u r n k) ∧ Cl (V single (sM (rC l m u k) (rX l m u r n (k + 1)))) (V single (rC l m u k) * V single (rX l m u r n (k + 1))) (ulp single E) ∧ Cl (V single (rX l m u r n k)) (V single (rD l m u r k) - V single (sM (rC l m u k) (rX l m u r n (k + 1)))) (ulp single E) := by
    intro k hk
    have z := (H.back (n - 1 - k) (by omega)).2 (n - 1 - (k + 1)) (by omega)
    rw [show n - 1 - (n - 1 - k) = k by omega] at z
    exact z
  have bx : ∀ k, k < n → Wn (rX l m u r n k) X := fun k hk => (H.back (n - 1 - k) (by omega)).1
  have xl : rX l m u r n (n - 1) = rD l m u r (n - 1) := by unfold rX; rw [show n - 1 - (n - 1) = 0 by omega]; rfl
  refine ⟨fun k => sM (l k) (rC l m u (k - 1)), rM l m u, fun k => sM (l k) (rD l m u r (k - 1)), rR l m u r, rC l m u, rD l m u r, fun k => sM (rC l m u k) (rX l m u r n (k + 1)), rX l m u r n, ?_, ⟨bx, ?_⟩, rfl, fun k hk => (H.rest k hk).2.1, fun k hk => ⟨(bk k hk).2.2.1, (bk k hk).2.2.2⟩⟩
  · exact {
      m0 := rfl
      r0 := rfl
      ft := fun k hk => ((H.fac (k + 1) hk).2.2.2.2.2.2 k rfl).1
      fm := fun k hk => ((H.fac (k + 1) hk).2.2.2.2.2.2 k rfl).2.1
      fs := fun k hk => ((H.rest (k + 1) hk).2.2.2 k rfl).1
      fr := fun k hk => ((H.rest (k + 1) hk).2.2.2 k rfl).2.1
      pos := fun k hk => ⟨(H.fac k hk).1, by have h := (H.fac k hk).2.1; have := H.mu; have := H.g1; grind⟩
      fc := fun k hk => (H.fac k hk).2.2.2.1
      fd := fun k hk => (H.rest k hk).1
      xe := xl
      fw := fun k hk => (bk k hk).1
      fx := fun k hk => (bk k hk).2.1 }
  · intro k hk
    have u0 := ulp_pos single E
    have Xn := (bx k hk).nonneg
    obtain ⟨_, f2, f3, _, wc, fq, fl⟩ := H.fac k hk
    obtain ⟨_, wd, gq, gl⟩ := H.rest k hk
    have bm : Cl (V single (rM l m u k)) 0 9 := by have := H.mu; have := H.g1; unfold Cl; constructor <;> grind
    have fq' : Cl (V single (rC l m u k) * V single (rM l m u k)) (V single (u k)) (9 * (1 / 1048576)) := fq.mono (by grind)
    -- what follows
    have nx : ∃ x1 w, Cl x1 0 X ∧ V single (u k) * x1 = (if k + 1 < n then V single (u k) * V single (rX l m u r n (k + 1)) else 0) ∧ Cl w (V single (rC l m u k) * x1) (ulp single E) ∧ Cl (V single (rX l m u r n k)) (V single (rD l m u r k) - w) (ulp single E) := by
      by_cases h : k + 1 < n
      · rw [if_pos h]
        exact ⟨_, _, (bx _ h).bd, rfl, (bk k h).2.2.1, (bk k h).2.2.2⟩
      · rw [if_neg h]
        obtain rfl : k = n - 1 := by omega
        have e : V single (rD l m u r (n - 1)) - 0 = V single (rD l m u r (n - 1)) := by grind
        exact ⟨0, 0, Cl.refl _ Xn, by grind, by rw [Rat.mul_zero]; exact Cl.refl _ (by grind), by rw [xl, e]; exact Cl.refl _ (by grind)⟩
    obtain ⟨x1, w, b1, e1, h1, h2⟩ := nx
    rw [← e1]
    cases k with
    | zero =>
      have e0 : rM l m u 0 = m 0 := rfl
      have er : rR l m u r 0 = r 0 := rfl
      rw [if_neg (by omega)]
      have z := row_res (m := V single (m 0)) (l := 0) (u := V single (u 0)) (r := V single (r 0)) (mm := V single (m 0)) (t := 0) (c0 := 0) (d0 := 0) (s := 0) (rr := V single (r 0)) (c := V single (rC l m u 0)) (d := V single (rD l m u r 0)) (w := w) (x := V single (rX l m u r n 0)) (w0 := 0) (x0 := 0) (x1 := x1) (X := X) (δ := 1 / 1048576) (e := ulp single E) Xn
        (by unfold Cl; constructor <;> grind) (by unfold Cl; constructor <;> grind) (by unfold Cl; constructor <;> grind) (by unfold Cl; constructor <;> grind) (by rw [← e0]; exact fq') (by rw [← e0, ← er]; exact gq) h1 h2 (by unfold Cl; constructor <;> grind) (by unfold Cl; constructor <;> grind) (bx 0 hk).bd b1 (by rw [← e0]; exact bm) (by unfold Cl; constructor <;> grind)
      rw [show (0 : Rat) * 0 = 0 from by grind] at z
      exact z
    | succ j =>
      rw [if_pos (by omega), show j + 1 - 1 = j by omega]
      obtain ⟨_, _, t3, t4⟩ := fl j rfl
      obtain ⟨_, _, s3, s4⟩ := gl j rfl
      exact row_res Xn t3 t4 s3 s4 fq' gq h1 h2 (bk j hk).2.2.1 (bk j hk).2.2.2 (bx (j + 1) hk).bd b1 bm (H.hl (j + 1) hk).bd
end Go.Proofs.Ytmlocjcfcmifdaa
