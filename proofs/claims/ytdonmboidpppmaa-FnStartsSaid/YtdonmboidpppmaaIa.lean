/- Plain facts: opposite speeds, products of speeds and masses, squares of speeds; a list of which one cell of each particle is changed. No program. -/
import Derived.Test.YtdonmboidpppmaaHg
namespace Go.Proofs.Ytdonmboidpppmaa
open Go.RowKit Go.Sort Ieee
set_option linter.unusedSimpArgs false

theorem neg_neg (z : Nat) : Op.negFloat .f32 (Op.negFloat .f32 z) = z := by
  unfold Op.negFloat
  rw [Nat.xor_assoc, Nat.xor_self, Nat.xor_zero]

def PD.turn (p : PD) : PD := ⟨p.a, p.b, Op.negFloat .f32 p.c, Op.negFloat .f32 p.d, p.q, p.m⟩
theorem PD.turn_turn (p : PD) : p.turn.turn = p := by
  unfold PD.turn
  simp only [neg_neg]

/-- The word of a speed, or of the opposite one. -/
def speedW (t : Bool) (u : Int) : Nat := if t then Op.negFloat .f32 (wd single 3 u) else wd single 3 u
def sgn (t : Bool) (u : Int) : Int := if t then -u else u

def speedChk (t : Bool) (u : Int) : Bool :=
  decide (speedW t u < 4294967296) && fin .f32 (speedW t u) && (single.order (speedW t u) (speedW t u) == some .eq) && (if u = 0 then speedW t u == (if t then 2147483648 else 0) else speedW t u == wd single 3 (sgn t u)) &&
    (match floatToFloatBits .f32 (speedW t u) .f64 with
    | none => false
    | some D => floatBits .mul .f64 D D == some (wd double 6 (u * u)))
theorem speedChk_all : ∀ (t : Bool) (n : Fin 17), speedChk t ((n.val : Int) - 8) = true := by decide +kernel
theorem speedChk_of (t : Bool) (u : Int) (h0 : -8 ≤ u) (h1 : u ≤ 8) : speedChk t u = true := by
  have h := speedChk_all t ⟨(u + 8).toNat, by omega⟩
  have e : (((u + 8).toNat : Nat) : Int) - 8 = u := by omega
  rwa [e] at h

theorem negz_is : Is single 2147483648 3 0 := by
  have h : single.read 2147483648 = .number true 0 (-149) := by decide +kernel
  exact ⟨true, 0, -149, h, Stands.zero⟩

theorem speed_is (t : Bool) (u : Int) (h0 : -8 ≤ u) (h1 : u ≤ 8) : Is single (speedW t u) 3 (sgn t u) := by
  have h := speedChk_of t u h0 h1
  unfold speedChk at h
  simp only [Bool.and_eq_true] at h
  have h4 := h.1.2
  by_cases hz : u = 0
  · rw [if_pos hz] at h4
    have h4 : speedW t u = if t then 2147483648 else 0 := by simpa using h4
    rw [h4]
    subst hz
    cases t
    · show Is single 0 3 0
      rw [← wd_zero single 3]
      exact wd_is single fit_single 3 0 (by decide) (by decide)
    · exact negz_is
  · rw [if_neg hz] at h4
    have h4 : speedW t u = wd single 3 (sgn t u) := by simpa using h4
    rw [h4]
    refine wd_is single fit_single 3 _ (by decide) ?_
    show (sgn t u).natAbs < 16777216
    unfold sgn
    split <;> omega
theorem speed_num (t : Bool) (u : Int) (h0 : -8 ≤ u) (h1 : u ≤ 8) : Num (speedW t u) ∧ fin .f32 (speedW t u) = true := by
  have h := speedChk_of t u h0 h1
  unfold speedChk at h
  simp only [Bool.and_eq_true, decide_eq_true_eq, beq_iff_eq] at h
  exact ⟨⟨by have := h.1.1.1.1; omega, h.1.1.2⟩, h.1.1.1.2⟩
theorem speed_square (t : Bool) (u : Int) (h0 : -8 ≤ u) (h1 : u ≤ 8) : ∃ D, floatToFloatBits .f32 (speedW t u) .f64 = some D ∧ floatBits .mul .f64 D D = some (wd double 6 (u * u)) := by
  have h := speedChk_of t u h0 h1
  unfold speedChk at h
  simp only [Bool.and_eq_true] at h
  have h5 := h.2
  split at h5
  · cases h5
  · rename_i D hD
    exact ⟨D, hD, by simpa using h5⟩

def massChk (m : Int) : Bool := match floatToFloatBits .f32 (wd single 2 m) .f64 with
  | none => false
  | some D => floatBits .mul .f64 4602678819172646912 D == some (wd double 3 m)
theorem massChk_all : ∀ n : Fin 9, massChk (n.val : Int) = true := by decide +kernel
theorem mass_half (m : Int) (h0 : 1 ≤ m) (h1 : m ≤ 8) : ∃ D, floatToFloatBits .f32 (wd single 2 m) .f64 = some D ∧ floatBits .mul .f64 4602678819172646912 D = some (wd double 3 m) := by
  have h := massChk_all ⟨m.toNat, by omega⟩
  rw [show ((m.toNat : Nat) : Int) = m by omega] at h
  unfold massChk at h
  split at h
  · cases h
  · rename_i D hD
    exact ⟨D, hD, by simpa using h⟩

/-- A product of a speed and a mass, and a sum with it. -/
theorem speed_mass (t : Bool) (u m : Int) (h0 : -8 ≤ u) (h1 : u ≤ 8) (hm0 : 1 ≤ m) (hm1 : m ≤ 8) : ∃ r, floatBits .mul .f32 (speedW t u) (wd single 2 m) = some r ∧ Is single r 5 (sgn t u * m) ∧ r < 2 ^ single.width := by
  have hb : (sgn t u * m).natAbs ≤ 64 := by
    have : (sgn t u).natAbs ≤ 8 := by unfold sgn; split <;> omega
    rw [Int.natAbs_mul]
    exact Nat.mul_le_mul this (show m.natAbs ≤ 8 by omega)
  obtain ⟨r, e, hr⟩ := Is.mul fit_single (speed_is t u h0 h1) (wd_is single fit_single 2 m (by decide) (by show m.natAbs < 16777216; omega)) (by decide) (by show _ < 16777216; omega)
  refine ⟨r, e, hr, ?_⟩
  obtain ⟨s, n, i, h1, _⟩ := speed_is t u h0 h1
  obtain ⟨s2, n2, i2, h2, _⟩ := wd_is single fit_single 2 m (by decide) (by show m.natAbs < 16777216; omega)
  have e2 : single.mul (speedW t u) (wd single 2 m) = some (single.write (.number (s ^^ s2) (n * n2) (i + i2))) := by
    unfold Format.mul; rw [h1, h2]; rfl
  rw [e] at e2
  injection e2 with e2
  rw [e2]
  exact nearest_lt _ _ _ _

/-- An exact number of a wide word, narrowed. -/
theorem narrow_wd (k : Nat) (a : Int) (hk : k ≤ 90) (ha : a.natAbs < 16777216) : floatToFloatBits .f64 (wd double k a) .f32 = some (wd single k a) := by
  obtain ⟨m, i, hr, hs⟩ := wd_read (f := double) fit_double (by decide) (k := k) (a := a) (by show k + 52 ≤ 149; omega) (by show a.natAbs < 2 ^ 53; omega)
  have hw : single.nearest (decide (a < 0)) m i = wd single k a := by
    by_cases h0 : a = 0
    · have hm := hs.mag_zero.2 h0
      subst h0
      rw [hm, wd_zero]
      exact nearest_zero single i
    · exact Is.unique (f := single) binade_le_single (write_is single fit_single hs (by show k + 23 ≤ 149; omega) (by show a.natAbs < 16777216; omega)) (nearest_lt _ _ _ _) h0
  obtain ⟨s2, m2, i2, h2⟩ := read_wd k a (by omega) ha
  unfold floatToFloatBits
  rw [if_neg (by decide)]
  rw [show FloatKind.f64.decode (wd double k a) = .number (decide (a < 0)) m i from hr]
  show (if (FloatKind.f32.decode (single.nearest (decide (a < 0)) m i)).isInfinity = true then none else some (single.nearest (decide (a < 0)) m i)) = _
  rw [hw, show FloatKind.f32.decode (wd single k a) = .number s2 m2 i2 from h2]
  rfl
end Go.Proofs.Ytdonmboidpppmaa
