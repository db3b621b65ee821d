/- Plain: a number made whole, up to the whole number below it; numbers wrapped into a side of a grid, as chains of operations on words, with errors. No condition on the program. Plain: the corners around a place, their shares, and what a field has there, as chains of operations on words, with errors; a place that is moved by little has nearly the same. No condition on the program. -/
import Derived.Test.YtdonmboidpppmaaBa
import Derived.Test.YtdonmboidpppmaaBf
import Derived.Test.YtdonmboidpppmaaGe
import Derived.Test.YtdonmboidpppmaaBg
namespace Go.Proofs.Ytdonmboidpppmaa
open Go Go.RowKit Ieee
set_option linter.unusedSimpArgs false
set_option linter.unusedVariables false

theorem gap_cases (n d : Nat) : (1 <<< min d (n.log2 + 2) = 2 ^ d) ∨ (n < 1 <<< min d (n.log2 + 2) ∧ n < 2 ^ d) := by
  by_cases hd : d ≤ n.log2 + 2
  · left; rw [Nat.min_eq_left hd, Nat.shiftLeft_eq, Nat.one_mul]
  · right
    have h1 : n < 2 ^ (n.log2 + 1) := Nat.lt_log2_self
    have h2 : 2 ^ (n.log2 + 1) ≤ 2 ^ (n.log2 + 2) := Nat.pow_le_pow_right (by decide) (by omega)
    have h3 : 2 ^ (n.log2 + 2) ≤ 2 ^ d := Nat.pow_le_pow_right (by decide) (by omega)
    rw [Nat.min_eq_right (by omega), Nat.shiftLeft_eq, Nat.one_mul]
    omega
theorem cut_zero (s : Bool) (n d : Nat) : Toward.zero.cut s n d = n / 2 ^ d := by
  unfold Toward.cut
  simp only [Bool.toNat_false, Nat.add_zero]
  rcases gap_cases n d with h | ⟨h1, h2⟩
  · rw [h]
  · rw [Nat.div_eq_of_lt h1, Nat.div_eq_of_lt h2]
theorem cut_down0 (n d : Nat) : Toward.down.cut false n d = n / 2 ^ d := by
  unfold Toward.cut
  simp only [Bool.false_and, Bool.toNat_false, Nat.add_zero]
  rcases gap_cases n d with h | ⟨h1, h2⟩
  · rw [h]
  · rw [Nat.div_eq_of_lt h1, Nat.div_eq_of_lt h2]
theorem cut_down1 (n d : Nat) : n ≤ Toward.down.cut true n d * 2 ^ d ∧ Toward.down.cut true n d * 2 ^ d < n + 2 ^ d := by
  unfold Toward.cut
  simp only [Bool.true_and]
  have hp := Nat.two_pow_pos d
  rcases gap_cases n d with h | ⟨h1, h2⟩
  · rw [h]
    generalize 2 ^ d = g at *
    have e1 := Nat.div_add_mod n g
    have e2 := Nat.mod_lt n hp
    have e3 : (n / g) * g = g * (n / g) := Nat.mul_comm _ _
    by_cases hr : n % g = 0
    · rw [hr]; simp only [bne_self_eq_false, Bool.toNat_false, Nat.add_zero]; omega
    · have : (n % g != 0) = true := by simpa using hr
      rw [this]; simp only [Bool.toNat_true, Nat.add_mul, Nat.one_mul]; omega
  · generalize 1 <<< min d (n.log2 + 2) = g at *
    rw [Nat.div_eq_of_lt h1, Nat.mod_eq_of_lt h1]
    by_cases hr : n = 0
    · subst hr; simp; omega
    · have : (n != 0) = true := by simpa using hr
      rw [this]; simp only [Bool.toNat_true, Nat.zero_add, Nat.one_mul]; omega

theorem mag_scaled (m : Nat) (i : Int) : (m : Rat) * p2 i * ((2 ^ (-i).toNat : Nat) : Rat) = ((m <<< i.toNat : Nat) : Rat) := by
  rw [Nat.shiftLeft_eq, ← p2_nat, Rat.natCast_mul, ← p2_nat]
  rcases Int.le_total 0 i with h | h
  · have e1 : ((-i).toNat : Int) = 0 := by omega
    have e2 : (i.toNat : Int) = i := by omega
    rw [e1, e2, p2_zero]; grind
  · have e1 : ((-i).toNat : Int) = -i := by omega
    have e2 : (i.toNat : Int) = 0 := by omega
    rw [e1, e2, p2_zero, Rat.mul_assoc, ← p2_add, show i + -i = 0 by omega, p2_zero]
theorem lt_of_mul {a b N : Rat} (hN : 0 < N) (h : a * N < b * N) : a < b := by
  rcases Rat.le_total (a := b) (b := a) with h0 | h0
  · have := Rat.mul_le_mul_of_nonneg_right h0 (Rat.le_of_lt hN)
    grind
  · by_cases e : a = b
    · subst e; grind
    · grind
theorem nat_lt_cast {a b : Nat} (h : a < b) : (a : Rat) < (b : Rat) := Rat.natCast_lt_natCast.2 h
theorem nat_le_cast {a b : Nat} (h : a ≤ b) : (a : Rat) ≤ (b : Rat) := Rat.natCast_le_natCast.2 h
theorem vn_plain (s : Bool) (M : Nat) : vn s M 0 = ((if s then -(M : Int) else (M : Int) : Int) : Rat) := by
  unfold vn sr
  rw [p2_zero]
  cases s
  · simp only [Bool.false_eq_true, if_false, Rat.intCast_natCast]; grind
  · simp only [if_true, Rat.intCast_neg, Rat.intCast_natCast]; grind
/-- The whole number below. -/
theorem floor_vn (s : Bool) (m : Nat) (i : Int) : ∃ K : Int, vn s (Toward.down.cut s (m <<< i.toNat) (-i).toNat) 0 = (K : Rat) ∧ (K : Rat) ≤ vn s m i ∧ vn s m i < (K : Rat) + 1 := by
  have sc := mag_scaled m i
  have hD : (0 : Rat) < ((2 ^ (-i).toNat : Nat) : Rat) := by
    have := nat_lt_cast (Nat.two_pow_pos (-i).toNat)
    simpa using this
  have hDn := Nat.two_pow_pos (-i).toNat
  generalize m <<< i.toNat = n at *
  have ev : vn s m i = sr s * ((m : Rat) * p2 i) := rfl
  refine ⟨_, vn_plain _ _, ?_⟩
  cases s
  · rw [cut_down0]
    rw [ev]
    generalize 2 ^ (-i).toNat = D at *
    generalize (m : Rat) * p2 i = v at *
    have e1 := Nat.div_add_mod n D
    have e2 := Nat.mod_lt n hDn
    generalize n / D = M at *
    have q1 : M * D ≤ n := by have := Nat.mul_comm M D; omega
    have q2 : n < (M + 1) * D := by have := Nat.mul_comm M D; rw [Nat.add_mul, Nat.one_mul]; omega
    have r1 := nat_le_cast q1
    have r2 := nat_lt_cast q2
    simp only [Rat.natCast_mul, Rat.natCast_add] at r1 r2
    simp only [sr, Bool.false_eq_true, if_false, Rat.intCast_natCast, Rat.one_mul]
    rw [← sc] at r1 r2
    exact ⟨le_of_mul hD r1, lt_of_mul hD (by simpa using r2)⟩
  · obtain ⟨q1, q2⟩ := cut_down1 n (-i).toNat
    rw [ev]
    generalize Toward.down.cut true n (-i).toNat = M at *
    generalize 2 ^ (-i).toNat = D at *
    generalize (m : Rat) * p2 i = v at *
    have r1 := nat_le_cast q1
    have r2 := nat_lt_cast q2
    simp only [Rat.natCast_mul, Rat.natCast_add] at r1 r2
    simp only [sr, if_true, Rat.intCast_neg, Rat.intCast_natCast]
    rw [← sc] at r1 r2
    have k1 := le_of_mul hD r1
    have k2 : (M : Rat) * (D : Rat) < (v + 1) * D := by grind
    have k3 := lt_of_mul hD k2
    constructor <;> grind
/-- Cut towards zero. -/
theorem trunc_vn (s : Bool) (m : Nat) (i : Int) (h : 0 ≤ vn s m i) : ∃ M : Nat, signed s (Toward.zero.cut s (m <<< i.toNat) (-i).toNat) 0 = (M : Int) ∧ (M : Rat) ≤ vn s m i ∧ vn s m i < (M : Rat) + 1 := by
  have sc := mag_scaled m i
  have hD : (0 : Rat) < ((2 ^ (-i).toNat : Nat) : Rat) := by
    have := nat_lt_cast (Nat.two_pow_pos (-i).toNat)
    simpa using this
  have hDn := Nat.two_pow_pos (-i).toNat
  have mg := mag_nonneg m i
  rw [cut_zero]
  have ev : vn s m i = sr s * ((m : Rat) * p2 i) := rfl
  cases s
  · refine ⟨(m <<< i.toNat) / 2 ^ (-i).toNat, by unfold signed; simp, ?_⟩
    generalize m <<< i.toNat = n at *
    rw [ev]
    generalize 2 ^ (-i).toNat = D at *
    generalize (m : Rat) * p2 i = v at *
    have e1 := Nat.div_add_mod n D
    have e2 := Nat.mod_lt n hDn
    generalize n / D = M at *
    have q1 : M * D ≤ n := by have := Nat.mul_comm M D; omega
    have q2 : n < (M + 1) * D := by have := Nat.mul_comm M D; rw [Nat.add_mul, Nat.one_mul]; omega
    have r1 := nat_le_cast q1
    have r2 := nat_lt_cast q2
    simp only [Rat.natCast_mul, Rat.natCast_add] at r1 r2
    simp only [sr, Bool.false_eq_true, if_false, Rat.one_mul]
    rw [← sc] at r1 r2
    exact ⟨le_of_mul hD r1, lt_of_mul hD (by simpa using r2)⟩
  · have hz : (m : Rat) * p2 i = 0 := by
      rw [ev] at h
      simp only [sr, if_true] at h
      grind
    rw [hz] at sc
    have hn : m <<< i.toNat = 0 := by
      have : (((m <<< i.toNat : Nat)) : Rat) = 0 := by rw [← sc]; grind
      exact Rat.natCast_eq_zero_iff.1 this
    refine ⟨0, by rw [hn]; simp [signed], ?_⟩
    rw [ev, hz]
    constructor <;> (simp; try grind)

theorem floorB_near {q : Nat} (n : Nm double q) (b : Cl (V double q) 0 600) : ∃ K : Int, Nm double (floorB q) ∧ Cl (V double (floorB q)) (K : Rat) (1 / 8796093022208) ∧ (K : Rat) ≤ V double q ∧ V double q < (K : Rat) + 1 := by
  obtain ⟨s, m, i, h⟩ := n
  obtain ⟨K, h1, h2, h3⟩ := floor_vn s m i
  have hv := V_of h
  rw [hv] at b ⊢
  have u6 : p2 10 = 1024 := by decide +kernel
  have l6 : ulp double 10 = 1 / 8796093022208 := by decide +kernel
  have e : floorB q = double.write (.number s (Toward.down.cut s (m <<< i.toNat) (-i).toNat) 0) := by
    unfold floorB
    rw [h]
    rfl
  obtain ⟨g1, g2, _⟩ := write_near good_double (s := s) (m := Toward.down.cut s (m <<< i.toNat) (-i).toNat) (i := 0) (E := 10) (by rw [h1, u6]; unfold Cl at b ⊢; constructor <;> grind) (ex_double (by decide) (by decide))
  rw [← e, h1, l6] at g2
  rw [← e] at g1
  exact ⟨K, g1, g2, h2, h3⟩

/-! ### Wrapped numbers -/
def WrapW (x side r : Nat) : Prop := ∃ D q p d n, floatToFloatBits .f32 x .f64 = some D ∧ floatBits .quo .f64 D (floatOfInt .f64 (side : Int)) = some q ∧ (∃ s m i, double.read q = .number s m i) ∧ floatBits .mul .f64 (floatOfInt .f64 (side : Int)) (floorB q) = some p ∧ floatBits .sub .f64 D p = some d ∧ floatToFloatBits .f64 d .f32 = some n ∧
  ((FloatKind.f32.format.order n 0 = some .gt ∧ FloatKind.f32.format.order n (floatOfInt .f32 (side : Int)) = some .lt ∧ r = n) ∨ (FloatKind.f32.format.order n 0 = some .gt ∧ FloatKind.f32.format.order n (floatOfInt .f32 (side : Int)) = some .gt ∧ r = 0) ∨ (FloatKind.f32.format.order n 0 = some .gt ∧ FloatKind.f32.format.order n (floatOfInt .f32 (side : Int)) = some .eq ∧ r = 0) ∨ (FloatKind.f32.format.order n 0 = some .lt ∧ r = 0) ∨ (FloatKind.f32.format.order n 0 = some .eq ∧ r = 0))
theorem int_double (n : Nat) (h : n ≤ 1000) : Nm double (floatOfInt .f64 (n : Int)) ∧ V double (floatOfInt .f64 (n : Int)) = (n : Rat) := by
  have h0 := V_wd (f := double) fit_double 0 (n : Int) (by decide) (by show (n : Int).natAbs < 9007199254740992; omega)
  rw [show p2 (-((0 : Nat) : Int)) = 1 from p2_zero, Rat.mul_one] at h0
  exact ⟨h0.1, by rw [show floatOfInt .f64 (n : Int) = wd double 0 (n : Int) from rfl, h0.2, Rat.intCast_natCast]⟩
theorem int_single (n : Nat) (h : n ≤ 1000) : Nm single (floatOfInt .f32 (n : Int)) ∧ V single (floatOfInt .f32 (n : Int)) = (n : Rat) := by
  have h0 := V_wd (f := single) fit_single 0 (n : Int) (by decide) (by show (n : Int).natAbs < 16777216; omega)
  rw [show p2 (-((0 : Nat) : Int)) = 1 from p2_zero, Rat.mul_one] at h0
  exact ⟨h0.1, by rw [show floatOfInt .f32 (n : Int) = wd single 0 (n : Int) from rfl, h0.2, Rat.intCast_natCast]⟩
theorem order_cases {x y : Nat} (nx : Nm single x) (ny : Nm single y) : (FloatKind.f32.format.order x y = some .lt ∧ V single x < V single y) ∨ (FloatKind.f32.format.order x y = some .eq ∧ V single x = V single y) ∨ (FloatKind.f32.format.order x y = some .gt ∧ V single y < V single x) := by
  have h := order_V nx ny
  rw [show FloatKind.f32.format.order x y = single.order x y from rfl, h]
  by_cases h1 : V single x < V single y
  · left; exact ⟨by rw [if_pos h1], h1⟩
  · by_cases h2 : V single x = V single y
    · right; left; exact ⟨by rw [if_neg h1, if_pos h2], h2⟩
    · right; right; exact ⟨by rw [if_neg h1, if_neg h2], by grind⟩
theorem side_cast {side : Nat} (h4 : 4 ≤ side) (h7 : side ≤ 7) : (4 : Rat) ≤ (side : Rat) ∧ (side : Rat) ≤ 7 := by
  have a := nat_le_cast h4
  have b := nat_le_cast h7
  exact ⟨by simpa using a, by simpa using b⟩

/-- A wrapped number lies in the side, and is the number but for whole sides, nearly. -/
theorem wrap_near {x side : Nat} (h4 : 4 ≤ side) (h7 : side ≤ 7) (nx : Nm single x) (bx : Cl (V single x) 0 2048) : ∃ r, WrapW x side r ∧ Nm single r ∧ 0 ≤ V single r ∧ V single r < (side : Rat) ∧ ∃ K : Int, Cl (V single r) (V single x - (K : Rat) * (side : Rat)) (1 / 1000000) := by
  obtain ⟨s4, s7⟩ := side_cast h4 h7
  obtain ⟨nS, vS⟩ := int_double side (by omega)
  obtain ⟨nT, vT⟩ := int_single side (by omega)
  obtain ⟨n0, v0⟩ := nm_zero
  have u4 : p2 9 = 512 := by decide +kernel
  have l6 : ulp double (9 + 2) = 1 / 4398046511104 := by decide +kernel
  have u8 : p2 12 = 4096 := by decide +kernel
  have l8 : ulp double 12 = 1 / 2199023255552 := by decide +kernel
  have u3 : p2 3 = 8 := by decide +kernel
  have l3 : ulp double 3 = 1 / 1125899906842624 := by decide +kernel
  have k3 : ulp single 3 = 1 / 2097152 := by decide +kernel
  obtain ⟨D, hD, nD, vD⟩ := widen_V nx
  generalize hSS : floatOfInt .f64 (side : Int) = S at *
  generalize hTT : floatOfInt .f32 (side : Int) = T at *
  have hS0 : V double S ≠ 0 := by rw [vS]; grind
  have e1 : V double D * (V double S)⁻¹ * V double S = V double D := by rw [Rat.mul_assoc, Rat.inv_mul_cancel _ hS0, Rat.mul_one]
  have b1 : Cl (V double D * (V double S)⁻¹) 0 512 := quo_bd (by rw [vS]; grind) e1 (by rw [vD, vS]; unfold Cl at bx ⊢; constructor <;> grind)
  obtain ⟨q, hq, nq, cq, _⟩ := div_near good_double nD nS hS0 9 _ e1 (by rw [u4]; exact b1) (ex_double (by decide) (by decide)) (by decide)
  rw [l6] at cq
  generalize hA : V double D * (V double S)⁻¹ = A at *
  obtain ⟨K, nF, cF, F1, F2⟩ := floorB_near nq ((cq.trans b1).mono (by grind))
  have aK : Cl (K : Rat) 0 514 := by
    have := cq.trans b1
    unfold Cl at this ⊢
    constructor <;> grind
  have sB : Cl ((side : Rat)) 0 7 := by unfold Cl; constructor <;> grind
  have b2 := sB.prod ((cF.trans aK).mono (e' := 515) (by grind))
  obtain ⟨p, hp, np, cp, _⟩ := mul_near good_double nS nF 12 (by rw [u8, vS]; exact b2.mono (by grind)) (ex_double (by decide) (by decide))
  rw [l8, vS] at cp
  have z : Cl ((side : Rat) * V double (floorB q)) ((side : Rat) * (K : Rat)) (7 * (1 / 8796093022208)) := by
    have := sB.prod cF.zero_of
    unfold Cl at this ⊢
    constructor <;> grind
  have cp2 := (cp.trans z).mono (e' := 1 / 10000000000) (by grind)
  have low : (side : Rat) * (K : Rat) ≤ V single x + 1 / 10000000000 := by
    have : (side : Rat) * (K : Rat) ≤ (side : Rat) * V double q := Rat.mul_le_mul_of_nonneg_left F1 (by grind)
    have t := sB.prod cq.zero_of
    have e2 : (side : Rat) * A = V single x := by rw [← vD, ← e1, vS]; grind
    unfold Cl at t
    grind
  have high : V single x < (side : Rat) * (K : Rat) + (side : Rat) + 1 / 10000000000 := by
    have : (side : Rat) * V double q < (side : Rat) * ((K : Rat) + 1) := Rat.mul_lt_mul_of_pos_left F2 (by grind)
    have t := sB.prod cq.zero_of
    have e2 : (side : Rat) * A = V single x := by rw [← vD, ← e1, vS]; grind
    unfold Cl at t
    grind
  obtain ⟨d, hd, nd, cd, _⟩ := sub_near good_double nD np 3 (by rw [u3, vD]; unfold Cl at cp2 ⊢; constructor <;> grind) (ex_double (by decide) (by decide))
  rw [l3, vD] at cd
  have cd2 : Cl (V double d) (V single x - (side : Rat) * (K : Rat)) (1 / 1000000000) := by
    unfold Cl at cd cp2 ⊢
    constructor <;> grind
  obtain ⟨n, hn, nn, cn, _⟩ := narrow_V nd 3 (by rw [u3]; unfold Cl at cd2 ⊢; constructor <;> grind) (ex_single (by decide) (by decide))
  rw [k3] at cn
  have cn2 := (cn.trans cd2).mono (e' := 1 / 2000000) (by grind)
  have wc : ∀ r, _ → WrapW x side r := fun r h => ⟨D, q, p, d, n, hD, by rw [hSS]; exact hq, nq, by rw [hSS]; exact hp, hd, hn, by rw [hTT]; exact h⟩
  rcases order_cases nn n0 with ⟨o1, c1⟩ | ⟨o1, c1⟩ | ⟨o1, c1⟩
  · refine ⟨0, wc 0 (.inr (.inr (.inr (.inl ⟨o1, rfl⟩)))), n0, by rw [v0]; grind, by rw [v0]; grind, K, ?_⟩
    rw [v0] at c1 ⊢
    unfold Cl at cn2 ⊢
    constructor <;> grind
  · refine ⟨0, wc 0 (.inr (.inr (.inr (.inr ⟨o1, rfl⟩)))), n0, by rw [v0]; grind, by rw [v0]; grind, K, ?_⟩
    rw [v0] at c1 ⊢
    unfold Cl at cn2 ⊢
    constructor <;> grind
  · rw [v0] at c1
    have up : Cl 0 (V single x - ((K + 1 : Int) : Rat) * (side : Rat)) (1 / 1000000) ∨ V single n < (side : Rat) := by
      rcases order_cases nn nT with ⟨o2, c2⟩ | ⟨o2, c2⟩ | ⟨o2, c2⟩
      · right; rw [vT] at c2; exact c2
      · left
        rw [vT] at c2
        rw [Rat.intCast_add]
        unfold Cl at cn2 ⊢
        constructor <;> grind
      · left
        rw [vT] at c2
        rw [Rat.intCast_add]
        unfold Cl at cn2 ⊢
        constructor <;> grind
    rcases order_cases nn nT with ⟨o2, c2⟩ | ⟨o2, c2⟩ | ⟨o2, c2⟩
    · rw [vT] at c2
      exact ⟨n, wc n (.inl ⟨o1, o2, rfl⟩), nn, by grind, c2, K, by unfold Cl at cn2 ⊢; constructor <;> grind⟩
    · rw [vT] at c2
      refine ⟨0, wc 0 (.inr (.inr (.inl ⟨o1, o2, rfl⟩))), n0, by rw [v0]; grind, by rw [v0]; grind, K + 1, ?_⟩
      rw [v0]
      rcases up with up | up
      · exact up
      · grind
    · rw [vT] at c2
      refine ⟨0, wc 0 (.inr (.inl ⟨o1, o2, rfl⟩)), n0, by rw [v0]; grind, by rw [v0]; grind, K + 1, ?_⟩
      rw [v0]
      rcases up with up | up
      · exact up
      · grind

/-! ### Corners -/
theorem trunc_of {r side : Nat} (h7 : side ≤ 7) (nr : Nm single r) (h0 : 0 ≤ V single r) (h1 : V single r < (side : Rat)) : ∃ c : Nat, c < side ∧ floatToIntVal .f32 r .i64 = some (c : Int) ∧ (c : Rat) ≤ V single r ∧ V single r < (c : Rat) + 1 := by
  obtain ⟨s, m, i, h⟩ := nr
  rw [V_of h] at h0 h1 ⊢
  obtain ⟨M, e, g1, g2⟩ := trunc_vn s m i h0
  have hc : M < side := by
    have : (M : Rat) < (side : Rat) := by grind
    exact Rat.natCast_lt_natCast.1 this
  refine ⟨M, hc, ?_, g1, g2⟩
  unfold floatToIntVal
  have hd : FloatKind.f32.decode r = .number s m i := h
  rw [hd]
  have e2 : (Datum.number s m i).toInt .zero = some (M : Int) := by
    show some (signed s (Toward.zero.cut s (m <<< i.toNat) (-i).toNat) 0) = _
    rw [e]
  rw [e2]
  have hb : IntKind.i64.min ≤ (M : Int) ∧ (M : Int) ≤ IntKind.i64.max := by
    have : IntKind.i64.min = -9223372036854775808 := by decide
    have : IntKind.i64.max = 9223372036854775807 := by decide
    omega
  simp only [if_pos hb]
end Go.Proofs.Ytdonmboidpppmaa
namespace Go.Proofs.Ytdonmboidpppmaa
open Go Go.RowKit Ieee
set_option linter.unusedSimpArgs false
set_option linter.unusedVariables false

/-- A place within a grid: its wrapped words, and the corner of its cell. -/
structure AtW (W H x y rx ry cx cy : Nat) : Prop where
  wx : WrapW x W rx
  wy : WrapW y H ry
  nx : Nm single rx
  ny : Nm single ry
  x0 : 0 ≤ V single rx
  x1 : V single rx < (W : Rat)
  y0 : 0 ≤ V single ry
  y1 : V single ry < (H : Rat)
  tx : floatToIntVal .f32 rx .i64 = some (cx : Int)
  ty : floatToIntVal .f32 ry .i64 = some (cy : Int)
  lx : cx < W
  ly : cy < H
  cx0 : (cx : Rat) ≤ V single rx
  cx1 : V single rx < (cx : Rat) + 1
  cy0 : (cy : Rat) ≤ V single ry
  cy1 : V single ry < (cy : Rat) + 1
  kx : ∃ K : Int, Cl (V single rx) (V single x - (K : Rat) * (W : Rat)) (1 / 1000000)
  ky : ∃ K : Int, Cl (V single ry) (V single y - (K : Rat) * (H : Rat)) (1 / 1000000)
theorem at_near {W H x y : Nat} (h : Sides W H) (nx : Nm single x) (ny : Nm single y) (bx : Cl (V single x) 0 2048) (bY : Cl (V single y) 0 2048) : ∃ rx ry cx cy, AtW W H x y rx ry cx cy := by
  obtain ⟨⟨h1, h2⟩, h3, h4⟩ := h
  obtain ⟨rx, a1, a2, a3, a4, a5⟩ := wrap_near h1 h2 nx bx
  obtain ⟨ry, b1, b2, b3, b4, b5⟩ := wrap_near h3 h4 ny bY
  obtain ⟨cx, d1, d2, d3, d4⟩ := trunc_of h2 a2 a3 a4
  obtain ⟨cy, e1, e2, e3, e4⟩ := trunc_of h4 b2 b3 b4
  exact ⟨rx, ry, cx, cy, a1, b1, a2, b2, a3, a4, b3, b4, d2, e2, d1, e1, d3, d4, e3, e4, a5, b5⟩

/-! ### Shares -/
def ShareW (rx ry cx cy s0 s1 s2 s3 : Nat) : Prop := ∃ f h g k, floatBits .sub .f32 rx (floatOfInt .f32 (cx : Int)) = some f ∧ floatBits .sub .f32 ry (floatOfInt .f32 (cy : Int)) = some h ∧ floatBits .sub .f32 1065353216 f = some g ∧ floatBits .sub .f32 1065353216 h = some k ∧ floatBits .mul .f32 g k = some s0 ∧ floatBits .mul .f32 f k = some s1 ∧ floatBits .mul .f32 g h = some s2 ∧ floatBits .mul .f32 f h = some s3
theorem unit_prod {a b : Rat} (a0 : 0 ≤ a) (a1 : a ≤ 1) (b0 : 0 ≤ b) (b1 : b ≤ 1) : 0 ≤ a * b ∧ a * b ≤ 1 := by
  have h1 := Rat.mul_nonneg a0 b0
  have h2 := Rat.mul_nonneg (a := a) (b := 1 - b) a0 (by grind)
  exact ⟨h1, by grind⟩
/-- A word near a share. -/
def Sh1 (s : Nat) (v : Rat) : Prop := Nm single s ∧ Cl (V single s) v (1 / 1000000) ∧ 0 ≤ v ∧ v ≤ 1
theorem share_near {W H x y rx ry cx cy : Nat} (h : Sides W H) (A : AtW W H x y rx ry cx cy) : ∃ s0 s1 s2 s3, ShareW rx ry cx cy s0 s1 s2 s3 ∧
    Sh1 s0 ((1 - (V single rx - cx)) * (1 - (V single ry - cy))) ∧ Sh1 s1 ((V single rx - cx) * (1 - (V single ry - cy))) ∧ Sh1 s2 ((1 - (V single rx - cx)) * (V single ry - cy)) ∧ Sh1 s3 ((V single rx - cx) * (V single ry - cy)) := by
  obtain ⟨⟨h1, h2⟩, h3, h4⟩ := h
  obtain ⟨nc, vc⟩ := int_single cx (by have := A.lx; omega)
  obtain ⟨nd, vd'⟩ := int_single cy (by have := A.ly; omega)
  have u0 : p2 0 = 1 := by decide +kernel
  have u1 : p2 1 = 2 := by decide +kernel
  have u2 : p2 2 = 4 := by decide +kernel
  have s0 : ulp single 0 = 1 / 16777216 := by decide +kernel
  have s1 : ulp single 1 = 1 / 8388608 := by decide +kernel
  have s2 : ulp single 2 = 1 / 4194304 := by decide +kernel
  have a0 := A.cx0
  have a1 := A.cx1
  have b0 := A.cy0
  have b1 := A.cy1
  obtain ⟨f, e1, nf, cf, _⟩ := sub_near good_single A.nx nc 0 (by rw [vc, u0]; unfold Cl; constructor <;> grind) (ex_single (by decide) (by decide))
  obtain ⟨g, e2, ng, cg, _⟩ := sub_near good_single A.ny nd 0 (by rw [vd', u0]; unfold Cl; constructor <;> grind) (ex_single (by decide) (by decide))
  rw [vc, s0] at cf
  rw [vd', s0] at cg
  have F0 : 0 ≤ V single rx - (cx : Rat) := by grind
  have F1 : V single rx - (cx : Rat) ≤ 1 := by grind
  have G0 : 0 ≤ V single ry - (cy : Rat) := by grind
  have G1 : V single ry - (cy : Rat) ≤ 1 := by grind
  generalize V single rx - (cx : Rat) = F at *
  generalize V single ry - (cy : Rat) = G at *
  have aF : Ap single f F (1 / 16777216) 1 := ⟨nf, cf, by unfold Cl; constructor <;> grind⟩
  have aG : Ap single g G (1 / 16777216) 1 := ⟨ng, cg, by unfold Cl; constructor <;> grind⟩
  have one : Ap single 1065353216 1 0 1 := ⟨nm_one.1, by rw [nm_one.2]; exact Cl.refl _ (by grind), by unfold Cl; constructor <;> grind⟩
  obtain ⟨p, e3, aP⟩ := one.sub good_single aF 2 (ex_single (by decide) (by decide)) (e' := 1 / 3000000) (B' := 2) (by rw [u2]; grind) (by rw [s2]; grind) (by grind)
  obtain ⟨q, e4, aQ⟩ := one.sub good_single aG 2 (ex_single (by decide) (by decide)) (e' := 1 / 3000000) (B' := 2) (by rw [u2]; grind) (by rw [s2]; grind) (by grind)
  have aP : Ap single p (1 - F) (1 / 3000000) 1 := ⟨aP.nm, aP.cl, by unfold Cl; constructor <;> grind⟩
  have aQ : Ap single q (1 - G) (1 / 3000000) 1 := ⟨aQ.nm, aQ.cl, by unfold Cl; constructor <;> grind⟩
  obtain ⟨r0, m0, c0⟩ := aP.mul good_single aQ 1 (ex_single (by decide) (by decide)) (e' := 1 / 1000000) (B' := 1) (by rw [u1]; grind) (by rw [s1]; grind) (by grind)
  obtain ⟨r1, m1, c1⟩ := aF.mul good_single aQ 1 (ex_single (by decide) (by decide)) (e' := 1 / 1000000) (B' := 1) (by rw [u1]; grind) (by rw [s1]; grind) (by grind)
  obtain ⟨r2, m2, c2⟩ := aP.mul good_single aG 1 (ex_single (by decide) (by decide)) (e' := 1 / 1000000) (B' := 1) (by rw [u1]; grind) (by rw [s1]; grind) (by grind)
  obtain ⟨r3, m3, c3⟩ := aF.mul good_single aG 1 (ex_single (by decide) (by decide)) (e' := 1 / 1000000) (B' := 1) (by rw [u1]; grind) (by rw [s1]; grind) (by grind)
  have p0 := unit_prod (a := 1 - F) (b := 1 - G) (by grind) (by grind) (by grind) (by grind)
  have p1 := unit_prod (a := F) (b := 1 - G) (by grind) (by grind) (by grind) (by grind)
  have p2' := unit_prod (a := 1 - F) (b := G) (by grind) (by grind) (by grind) (by grind)
  have p3 := unit_prod (a := F) (b := G) (by grind) (by grind) (by grind) (by grind)
  exact ⟨r0, r1, r2, r3, ⟨f, g, p, q, e1, e2, e3, e4, m0, m1, m2, m3⟩, ⟨c0.nm, c0.cl, p0⟩, ⟨c1.nm, c1.cl, p1⟩, ⟨c2.nm, c2.cl, p2'⟩, ⟨c3.nm, c3.cl, p3⟩⟩

/-! ### What a field has -/
structure Fld (W H : Nat) (F : List Nat) : Prop where
  len : F.length = W * H
  num : ∀ z ∈ F, Nm single z
  bd : ∀ z ∈ F, Cl (V single z) 0 2
def fAt (W H : Nat) (F : List Nat) (i j : Int) : Nat := F.getD (idx W H i j).toNat 0
theorem getD_mem0 (F : List Nat) (i : Nat) : F.getD i 0 ∈ F ∨ F.getD i 0 = 0 := by
  by_cases h : i < F.length
  · left
    rw [List.getD_eq_getElem?_getD, List.getElem?_eq_getElem h]
    exact List.getElem_mem h
  · right
    rw [List.getD_eq_getElem?_getD, List.getElem?_eq_none (by omega)]; rfl
theorem Fld.at {W H : Nat} {F : List Nat} (h : Fld W H F) (i j : Int) : Nm single (fAt W H F i j) ∧ Cl (V single (fAt W H F i j)) 0 2 := by
  unfold fAt
  rcases getD_mem0 F (idx W H i j).toNat with e | e
  · exact ⟨h.num _ e, h.bd _ e⟩
  · rw [e]; exact ⟨nm_zero.1, by rw [nm_zero.2]; unfold Cl; constructor <;> grind⟩
def GatW (W H rx ry cx cy : Nat) (F : List Nat) (out : Nat) : Prop := ∃ s0 s1 s2 s3 p0 p1 p2 p3 t0 t1 t2, ShareW rx ry cx cy s0 s1 s2 s3 ∧ floatBits .mul .f32 s0 (fAt W H F cx cy) = some p0 ∧ floatBits .mul .f32 s1 (fAt W H F (cx + 1) cy) = some p1 ∧ floatBits .mul .f32 s2 (fAt W H F cx (cy + 1)) = some p2 ∧ floatBits .mul .f32 s3 (fAt W H F (cx + 1) (cy + 1)) = some p3 ∧
  floatBits .add .f32 0 p0 = some t0 ∧ floatBits .add .f32 t0 p1 = some t1 ∧ floatBits .add .f32 t1 p2 = some t2 ∧ floatBits .add .f32 t2 p3 = some out
def L1 (f p q : Rat) : Rat := (1 - f) * p + f * q
/-- What a field has at a place: two linear ways, one across, one along. -/
def gI (W H : Nat) (F : List Nat) (cx : Int) (f : Rat) (cy : Int) (h : Rat) : Rat :=
  L1 h (L1 f (V single (fAt W H F cx cy)) (V single (fAt W H F (cx + 1) cy))) (L1 f (V single (fAt W H F cx (cy + 1))) (V single (fAt W H F (cx + 1) (cy + 1))))
theorem L1_bd {f p q B : Rat} (f0 : 0 ≤ f) (f1 : f ≤ 1) (hp : Cl p 0 B) (hq : Cl q 0 B) : Cl (L1 f p q) 0 B := by
  unfold L1 Cl at *
  have a1 := Rat.mul_nonneg (a := 1 - f) (b := B - p) (by grind) (by grind)
  have a2 := Rat.mul_nonneg (a := 1 - f) (b := B + p) (by grind) (by grind)
  have a3 := Rat.mul_nonneg (a := f) (b := B - q) (by grind) (by grind)
  have a4 := Rat.mul_nonneg (a := f) (b := B + q) (by grind) (by grind)
  constructor <;> grind
theorem gat_near {W H x y rx ry cx cy : Nat} {F : List Nat} (h : Sides W H) (A : AtW W H x y rx ry cx cy) (hF : Fld W H F) : ∃ out, GatW W H rx ry cx cy F out ∧ Nm single out ∧ Cl (V single out) (gI W H F cx (V single rx - cx) cy (V single ry - cy)) (1 / 60000) ∧ Cl (V single out) 0 (9 / 4) := by
  obtain ⟨s0, s1, s2, s3, hs, a0, a1, a2, a3⟩ := share_near h A
  obtain ⟨n0, b0⟩ := hF.at cx cy
  obtain ⟨n1, b1⟩ := hF.at (cx + 1) cy
  obtain ⟨n2, b2⟩ := hF.at cx (cy + 1)
  obtain ⟨n3, b3⟩ := hF.at (cx + 1) (cy + 1)
  have ex : gI W H F cx (V single rx - cx) cy (V single ry - cy) = (1 - (V single rx - cx)) * (1 - (V single ry - cy)) * V single (fAt W H F cx cy) + (V single rx - cx) * (1 - (V single ry - cy)) * V single (fAt W H F (cx + 1) cy) + (1 - (V single rx - cx)) * (V single ry - cy) * V single (fAt W H F cx (cy + 1)) + (V single rx - cx) * (V single ry - cy) * V single (fAt W H F (cx + 1) (cy + 1)) := by
    unfold gI L1; grind
  have f0 := A.cx0
  have f1 := A.cx1
  have g0 := A.cy0
  have g1 := A.cy1
  have bI : Cl (gI W H F cx (V single rx - cx) cy (V single ry - cy)) 0 2 := L1_bd (by grind) (by grind) (L1_bd (by grind) (by grind) b0 b1) (L1_bd (by grind) (by grind) b2 b3)
  have u2 : p2 2 = 4 := by decide +kernel
  have u3 : p2 3 = 8 := by decide +kernel
  have u4 : p2 4 = 16 := by decide +kernel
  have k2 : ulp single 2 = 1 / 4194304 := by decide +kernel
  have k3 : ulp single 3 = 1 / 2097152 := by decide +kernel
  have k4 : ulp single 4 = 1 / 1048576 := by decide +kernel
  have ap : ∀ s v, Sh1 s v → Ap single s v (1 / 1000000) 1 := fun s v q => ⟨q.1, q.2.1, by have := q.2.2; unfold Cl; constructor <;> grind⟩
  unfold GatW
  generalize fAt W H F cx cy = F0 at *
  generalize fAt W H F (cx + 1) cy = F1 at *
  generalize fAt W H F cx (cy + 1) = F2 at *
  generalize fAt W H F (cx + 1) (cy + 1) = F3 at *
  obtain ⟨p0, m0, c0⟩ := (ap _ _ a0).mul good_single (Ap.self n0 b0) 2 (ex_single (by decide) (by decide)) (e' := 1 / 400000) (B' := 2) (by rw [u2]; grind) (by rw [k2]; grind) (by grind)
  obtain ⟨p1, m1, c1⟩ := (ap _ _ a1).mul good_single (Ap.self n1 b1) 2 (ex_single (by decide) (by decide)) (e' := 1 / 400000) (B' := 2) (by rw [u2]; grind) (by rw [k2]; grind) (by grind)
  obtain ⟨p2', m2, c2⟩ := (ap _ _ a2).mul good_single (Ap.self n2 b2) 2 (ex_single (by decide) (by decide)) (e' := 1 / 400000) (B' := 2) (by rw [u2]; grind) (by rw [k2]; grind) (by grind)
  obtain ⟨p3, m3, c3⟩ := (ap _ _ a3).mul good_single (Ap.self n3 b3) 2 (ex_single (by decide) (by decide)) (e' := 1 / 400000) (B' := 2) (by rw [u2]; grind) (by rw [k2]; grind) (by grind)
  have zero : Ap single 0 0 0 0 := ⟨nm_zero.1, by rw [nm_zero.2]; exact Cl.refl _ (by grind), Cl.refl _ (by grind)⟩
  obtain ⟨t0, e0, d0⟩ := zero.add good_single c0 2 (ex_single (by decide) (by decide)) (e' := 1 / 350000) (B' := 2) (by rw [u2]; grind) (by rw [k2]; grind) (by grind)
  obtain ⟨t1, e1, d1⟩ := d0.add good_single c1 3 (ex_single (by decide) (by decide)) (e' := 1 / 170000) (B' := 4) (by rw [u3]; grind) (by rw [k3]; grind) (by grind)
  obtain ⟨t2, e2, d2⟩ := d1.add good_single c2 3 (ex_single (by decide) (by decide)) (e' := 1 / 110000) (B' := 6) (by rw [u3]; grind) (by rw [k3]; grind) (by grind)
  obtain ⟨t3, e3, d3⟩ := d2.add good_single c3 4 (ex_single (by decide) (by decide)) (e' := 1 / 60000) (B' := 8) (by rw [u4]; grind) (by rw [k4]; grind) (by grind)
  have cc := d3.cl
  rw [show (0 : Rat) + (1 - (V single rx - cx)) * (1 - (V single ry - cy)) * V single F0 + (V single rx - cx) * (1 - (V single ry - cy)) * V single F1 + (1 - (V single rx - cx)) * (V single ry - cy) * V single F2 + (V single rx - cx) * (V single ry - cy) * V single F3 = gI W H F cx (V single rx - cx) cy (V single ry - cy) by rw [ex]; grind] at cc
  exact ⟨t3, ⟨s0, s1, s2, s3, p0, p1, p2', p3, t0, t1, t2, hs, m0, m1, m2, m3, e0, e1, e2, e3⟩, d3.nm, cc, (cc.trans bI).mono (by grind)⟩

/-! ### Places that are near each other -/
/-- Along one side: the same cell, or the next, or the one before. -/
inductive NearC (W : Nat) (c : Nat) (f : Rat) (c' : Nat) (f' : Rat) (δ : Rat) : Prop where
  | same : c' = c → Cl f' f δ → NearC W c f c' f' δ
  | up : (c' : Int) % (W : Int) = ((c : Int) + 1) % (W : Int) → 1 - f ≤ δ → f' ≤ δ → NearC W c f c' f' δ
  | down : ((c' : Int) + 1) % (W : Int) = (c : Int) % (W : Int) → f ≤ δ → 1 - f' ≤ δ → NearC W c f c' f' δ
theorem int_le_of {a b : Int} (h : (a : Rat) ≤ (b : Rat)) : a ≤ b := Rat.intCast_le_intCast.1 h
theorem int_lt_of {a b : Int} (h : (a : Rat) < (b : Rat)) : a < b := Rat.intCast_lt_intCast.1 h
theorem near_cell {W : Nat} (hW : 4 ≤ W) {c c' : Nat} (hc : c < W) (hc' : c' < W) {r r' δ : Rat} (r0 : (c : Rat) ≤ r) (r1 : r < (c : Rat) + 1) (r0' : (c' : Rat) ≤ r') (r1' : r' < (c' : Rat) + 1) (K : Int) (h : Cl r' (r + (K : Rat) * (W : Rat)) δ) (hδ : δ ≤ 1 / 4) : NearC W c (r - c) c' (r' - c') δ := by
  unfold Cl at h
  generalize hN : (c' : Int) - (c : Int) - K * (W : Int) = N
  have eN : (N : Rat) = (c' : Rat) - (c : Rat) - (K : Rat) * (W : Rat) := by
    rw [← hN]
    simp only [Rat.intCast_sub, Rat.intCast_mul, Rat.intCast_natCast]
  have d0 : 0 ≤ δ := by grind
  have lo : (-2 : Int) < N := int_lt_of (by rw [eN]; simp only [Rat.intCast_neg]; grind)
  have hi : N < (2 : Int) := int_lt_of (by rw [eN]; grind)
  have hs : N = -1 ∨ N = 0 ∨ N = 1 := by omega
  rcases hs with h0 | h0 | h0
  · have e1 : (c' : Int) + 1 = (c : Int) + (W : Int) * K := by have := Int.mul_comm K (W : Int); omega
    have eR : (c' : Rat) - (c : Rat) - (K : Rat) * (W : Rat) = -1 := by rw [← eN, h0]; rfl
    refine .down (by rw [e1, Int.add_mul_emod_self_left]) (by grind) (by grind)
  · have e1 : (c' : Int) = (c : Int) + (W : Int) * K := by have := Int.mul_comm K (W : Int); omega
    have eR : (c' : Rat) - (c : Rat) - (K : Rat) * (W : Rat) = 0 := by rw [← eN, h0]; rfl
    have e2 : c' = c := by
      have q1 : (c' : Int) % (W : Int) = c' := Int.emod_eq_of_lt (by omega) (by omega)
      have q2 : (c : Int) % (W : Int) = c := Int.emod_eq_of_lt (by omega) (by omega)
      have q3 : (c' : Int) % (W : Int) = (c : Int) % (W : Int) := by rw [e1, Int.add_mul_emod_self_left]
      omega
    refine .same e2 ?_
    unfold Cl
    constructor <;> grind
  · have e1 : (c' : Int) = ((c : Int) + 1) + (W : Int) * K := by have := Int.mul_comm K (W : Int); omega
    have eR : (c' : Rat) - (c : Rat) - (K : Rat) * (W : Rat) = 1 := by rw [← eN, h0]; rfl
    refine .up (by rw [e1, Int.add_mul_emod_self_left]) (by grind) (by grind)
/-- One linear way at places that are near each other, of numbers that are near each other. -/
theorem L1_move {W c c' : Nat} {f f' δ B η : Rat} (N : NearC W c f c' f' δ) (f0 : 0 ≤ f) (f1 : f ≤ 1) (g0 : 0 ≤ f') (g1 : f' ≤ 1) (φ ψ : Int → Rat) (hφ : ∀ i, Cl (φ i) 0 B) (hp : ∀ i j : Int, i % (W : Int) = j % (W : Int) → φ i = φ j) (hψ : ∀ i, Cl (ψ i) (φ i) η) : Cl (L1 f' (ψ c') (ψ (c' + 1))) (L1 f (φ c) (φ (c + 1))) (4 * B * δ + η) := by
  have B0 := (hφ 0).nonneg
  have m1 : Cl (L1 f' (ψ c') (ψ (c' + 1))) (L1 f' (φ c') (φ (c' + 1))) η := by
    have a := L1_bd (f := f') (p := ψ c' - φ c') (q := ψ (c' + 1) - φ (c' + 1)) (B := η) g0 g1 (by have := hψ c'; unfold Cl at *; constructor <;> grind) (by have := hψ (c' + 1); unfold Cl at *; constructor <;> grind)
    unfold L1 Cl at *
    constructor <;> grind
  refine (m1.trans (y := L1 f' (φ c') (φ (c' + 1))) ?_).mono (e := η + 4 * B * δ) (by grind)
  have bd : ∀ i j : Int, Cl (φ i - φ j) 0 (2 * B) := fun i j => by have := hφ i; have := hφ j; unfold Cl at *; constructor <;> grind
  cases N with
  | same e h =>
    subst e
    have d0 := h.nonneg
    have q := (h.zero_of).prod (bd (c' + 1) c')
    have e1 : L1 f' (φ c') (φ (c' + 1)) - L1 f (φ c') (φ (c' + 1)) = (f' - f) * (φ (c' + 1) - φ c') := by unfold L1; grind
    have := Rat.mul_nonneg B0 d0
    rw [← e1] at q
    unfold Cl at *
    constructor <;> grind
  | up e h1 h2 =>
    have d0 : 0 ≤ δ := by grind
    have e2 := hp _ _ e
    have q1 := (show Cl (1 - f) 0 δ by unfold Cl; constructor <;> grind).prod (bd c (c + 1))
    have q2 := (show Cl f' 0 δ by unfold Cl; constructor <;> grind).prod (bd (c' + 1) c')
    have e1 : L1 f' (φ c') (φ (c' + 1)) - L1 f (φ c) (φ (c + 1)) = f' * (φ (c' + 1) - φ c') - (1 - f) * (φ c - φ (c + 1)) := by unfold L1; rw [e2]; grind
    have q := q2.sub q1
    rw [← e1] at q
    unfold Cl at *
    constructor <;> grind
  | down e h1 h2 =>
    have d0 : 0 ≤ δ := by grind
    have e2 := hp _ _ e
    have q1 := (show Cl (1 - f') 0 δ by unfold Cl; constructor <;> grind).prod (bd c' (c' + 1))
    have q2 := (show Cl f 0 δ by unfold Cl; constructor <;> grind).prod (bd (c + 1) c)
    have e1 : L1 f' (φ c') (φ (c' + 1)) - L1 f (φ c) (φ (c + 1)) = (1 - f') * (φ c' - φ (c' + 1)) - f * (φ (c + 1) - φ c) := by unfold L1; rw [e2]; grind
    have q := q1.sub q2
    rw [← e1] at q
    unfold Cl at *
    constructor <;> grind
theorem gI_move {W H : Nat} {F : List Nat} (hF : Fld W H F) {cx cx' cy cy' : Nat} {f f' h h' δ : Rat} (NX : NearC W cx f cx' f' δ) (NY : NearC H cy h cy' h' δ) (f0 : 0 ≤ f) (f1 : f ≤ 1) (g0 : 0 ≤ f') (g1 : f' ≤ 1) (h0 : 0 ≤ h) (h1 : h ≤ 1) (k0 : 0 ≤ h') (k1 : h' ≤ 1) : Cl (gI W H F cx' f' cy' h') (gI W H F cx f cy h) (16 * δ) := by
  have ix : ∀ i i' j j' : Int, i % (W : Int) = i' % (W : Int) → j % (H : Int) = j' % (H : Int) → fAt W H F i j = fAt W H F i' j' := fun i i' j j' e g => by unfold fAt idx; rw [e, g]
  have inner : ∀ j : Int, Cl (L1 f' (V single (fAt W H F cx' j)) (V single (fAt W H F (cx' + 1) j))) (L1 f (V single (fAt W H F cx j)) (V single (fAt W H F (cx + 1) j))) (4 * 2 * δ + 0) := fun j =>
    L1_move NX f0 f1 g0 g1 (fun i => V single (fAt W H F i j)) (fun i => V single (fAt W H F i j)) (fun i => (hF.at i j).2) (fun i i' e => by show V single _ = V single _; rw [ix i i' j j e rfl]) (fun i => Cl.refl _ (by grind))
  have outer := L1_move NY h0 h1 k0 k1 (fun j => L1 f (V single (fAt W H F cx j)) (V single (fAt W H F (cx + 1) j))) (fun j => L1 f' (V single (fAt W H F cx' j)) (V single (fAt W H F (cx' + 1) j))) (B := 2) (fun j => L1_bd f0 f1 (hF.at _ _).2 (hF.at _ _).2) (fun j j' e => by show L1 _ _ _ = L1 _ _ _; rw [ix cx cx j j' rfl e, ix (cx + 1) (cx + 1) j j' rfl e]) (η := 4 * 2 * δ + 0) (fun j => inner j)
  unfold gI
  exact outer.mono (by grind)
end Go.Proofs.Ytdonmboidpppmaa
