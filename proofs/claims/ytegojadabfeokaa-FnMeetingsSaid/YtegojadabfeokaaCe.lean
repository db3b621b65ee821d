/- Plain facts: the chain of operations by which an angle is reckoned stays among numbers. No program. -/
import Derived.Test.YtegojadabfeokaaRv
import Derived.Test.YtegojadabfeokaaCd
namespace Go.Proofs.Ytegojadabfeokaa
open Ieee Go.RowKit

/-! ### The opposite of a word -/
theorem read_neg (f : Format) (b : Nat) : f.read (b ^^^ f.signWeight) = (f.read b).opposite := by
  have hp := signWeight_pos f
  have e1 : (b ^^^ f.signWeight) % f.signWeight = b % f.signWeight := by
    unfold Format.signWeight
    rw [Nat.xor_mod_two_pow, Nat.mod_self, Nat.xor_zero]
  have e2 : (b ^^^ f.signWeight) / f.signWeight = b / f.signWeight ^^^ 1 := by
    rw [show f.signWeight = 2 ^ (f.exponentBits + f.fractionBits) from rfl, Nat.xor_div_two_pow, Nat.div_self (Nat.two_pow_pos _)]
  have e3 : ((b / f.signWeight ^^^ 1) % 2 == 1) = !(b / f.signWeight % 2 == 1) := by
    have h := Nat.xor_mod_two_pow (a := b / f.signWeight) (b := 1) (n := 1)
    rw [show (2 : Nat) ^ 1 = 2 from rfl] at h
    rw [h]
    have h2 : b / f.signWeight % 2 < 2 := Nat.mod_lt _ (by decide)
    generalize b / f.signWeight % 2 = q at *
    obtain rfl | rfl : q = 0 ∨ q = 1 := by omega
    · rfl
    · rfl
  unfold Format.read
  simp only [e1, e2, e3]
  split
  · rfl
  · split
    · rfl
    · split <;> rfl
theorem neg64_xor (b : Nat) : Go.Op.negFloat .f64 b = b ^^^ double.signWeight := rfl
theorem neg32_xor (b : Nat) : Go.Op.negFloat .f32 b = b ^^^ single.signWeight := rfl
theorem neg_V {b : Nat} (h : Nm double b) : Nm double (Go.Op.negFloat .f64 b) ∧ V double (Go.Op.negFloat .f64 b) = -V double b := by
  obtain ⟨s, m, i, h⟩ := h
  have e : double.read (Go.Op.negFloat .f64 b) = .number (!s) m i := by rw [neg64_xor, read_neg, h]; rfl
  refine ⟨⟨_, _, _, e⟩, ?_⟩
  rw [V_of e, V_of h]
  unfold vn sr
  cases s <;> simp <;> grind
theorem neg32_twice (b : Nat) : Go.Op.negFloat .f32 (Go.Op.negFloat .f32 b) = b := by
  rw [neg32_xor, neg32_xor, Nat.xor_assoc, Nat.xor_self, Nat.xor_zero]
theorem neg32_lt {b : Nat} (h : b < 4294967296) : Go.Op.negFloat .f32 b < 4294967296 := Nat.xor_lt_two_pow (n := 32) h (by decide)

/-! ### Numbers between bounds -/
def W1 : Nat := 4607182418800017408
theorem W1_V : Nm double W1 ∧ V double W1 = 1 := by
  have := V_wd (f := double) fit_double 0 1 (by decide) (by decide)
  have e : wd double 0 1 = W1 := by decide +kernel
  rw [e] at this
  exact ⟨this.1, by rw [this.2]; decide +kernel⟩
theorem quo_le {q y M c : Rat} (hq : 0 ≤ q) (hy : c ≤ y) (h : q * y ≤ M) : q * c ≤ M := Rat.le_trans (Rat.mul_le_mul_of_nonneg_left hy hq) h
theorem quo_pos {q x y : Rat} (hy : 0 < y) (hx : 0 ≤ x) (h : q * y = x) : 0 ≤ q := by
  apply Classical.byContradiction
  intro hn
  have h1 : q < 0 := by grind
  have h2 := (Rat.mul_lt_mul_right (a := q) (b := 0) hy).2 h1
  grind
theorem quo_ex (x y : Rat) (hy : 0 < y) : x * y⁻¹ * y = x := by
  have := Rat.mul_inv_cancel y (by grind)
  grind

/-- One halving. -/
theorem half_step (T : Nat) (n : Nm double T) (h0 : 0 ≤ V double T) (h2 : V double T ≤ 2) : ∃ s a r b T', Go.floatBits .mul .f64 T T = some s ∧ Go.floatBits .add .f64 W1 s = some a ∧ double.sqrt a = some r ∧ Go.floatBits .add .f64 W1 r = some b ∧ Go.floatBits .quo .f64 T b = some T' ∧ Nm double T' ∧ 0 ≤ V double T' ∧ V double T' ≤ 2 := by
  obtain ⟨w1, v1⟩ := W1_V
  have e2 : p2 2 = 4 := by decide +kernel
  have e3 : p2 3 = 8 := by decide +kernel
  have e1 : p2 1 = 2 := p2_one
  have hs0 := Rat.mul_nonneg h0 h0
  have hs4 : V double T * V double T ≤ 4 := by
    have := sq_mono h0 h2
    grind
  obtain ⟨s, hs, ns, cs, ps⟩ := mul_near good_double n n 2 (by rw [e2]; unfold Cl; constructor <;> grind) (ex_double (by omega) (by omega))
  have u2 : ulp double 2 ≤ 1 / 100 := by decide +kernel
  have s0 := ps hs0
  unfold Cl at cs
  obtain ⟨a, ha, na, ca, _⟩ := add_near good_double w1 ns 3 (by rw [e3, v1]; unfold Cl; constructor <;> grind) (ex_double (by omega) (by omega))
  have u3 : ulp double 3 ≤ 1 / 100 := by decide +kernel
  rw [v1] at ca
  unfold Cl at ca
  have a0 : 9 / 10 ≤ V double a := by grind
  have a6 : V double a ≤ 6 := by grind
  obtain ⟨r, hr, nr, r0, k1, k2⟩ := sqrt_near good_double na (by grind) (fun h => by grind) 2 (by rw [e2]; grind) (ex_double (by omega) (by omega))
  have u4 : ulp double (2 + 2) ≤ 1 / 100 := by decide +kernel
  have r1 := k1 (3 / 4) (by grind) (by grind)
  have r3 := k2 3 (by grind) (by grind)
  obtain ⟨b, hb, nb, cb, _⟩ := add_near good_double w1 nr 3 (by rw [e3, v1]; unfold Cl; constructor <;> grind) (ex_double (by omega) (by omega))
  rw [v1] at cb
  unfold Cl at cb
  have b1 : 3 / 2 ≤ V double b := by grind
  have hq := quo_ex (V double T) (V double b) (by grind)
  have q0 := quo_pos (by grind) h0 hq
  have q1 := quo_le (M := 2) q0 b1 (by grind)
  obtain ⟨t, ht, nt, ct, pt⟩ := div_near good_double n nb (by grind) 1 _ hq (by rw [e1]; unfold Cl; constructor <;> grind) (ex_double (by omega) (by omega)) (by decide)
  have u5 : ulp double (1 + 2) ≤ 1 / 100 := by decide +kernel
  unfold Cl at ct
  exact ⟨s, a, r, b, t, hs, ha, hr, hb, ht, nt, pt q0, by grind⟩

/-! ### The series -/
def akk (j : Nat) : Nat := (Go.floatBits .quo .f64 W1 (Go.floatOfInt .f64 (15 - 2 * (j : Int)))).getD 0
theorem akk_all : ∀ j : Fin 8, (decide (Go.floatBits .quo .f64 W1 (Go.floatOfInt .f64 (15 - 2 * (j.val : Int))) = some (akk j.val)) && (fin .f64 (akk j.val) && (decide (V double (akk j.val) ≤ 1) && decide (0 ≤ V double (akk j.val))))) = true := by decide +kernel
theorem fin_Nm64 {b : Nat} (h : fin .f64 b = true) : Nm double b := by
  unfold fin at h
  cases hd : FloatKind.f64.format.read b with
  | number s m i => exact ⟨s, m, i, hd⟩
  | infinity s => rw [hd] at h; cases h
  | nan s t => rw [hd] at h; cases h
theorem akk_ok (j : Nat) (hj : j < 8) : Go.floatBits .quo .f64 W1 (Go.floatOfInt .f64 (15 - 2 * (j : Int))) = some (akk j) ∧ Nm double (akk j) ∧ V double (akk j) ≤ 1 ∧ 0 ≤ V double (akk j) := by
  have h := akk_all ⟨j, hj⟩
  simp only [Bool.and_eq_true, decide_eq_true_eq] at h
  exact ⟨h.1, fin_Nm64 h.2.1, h.2.2.1, h.2.2.2⟩
theorem p2_ge1 (n : Nat) : 1 ≤ p2 (n : Int) := by
  have h := p2_le (i := 0) (j := (n : Int)) (by omega)
  rw [p2_zero] at h
  exact h
theorem ulp_small (E : Int) (h : E ≤ 50) : ulp double E ≤ 1 / 4 := by
  have h1 : ulp double E ≤ ulp double 50 := p2_le (by omega)
  have h2 : ulp double 50 ≤ 1 / 4 := by decide +kernel
  exact Rat.le_trans h1 h2
theorem poly_step (u p j : Nat) (hj : j < 8) (nu : Nm double u) (u0 : 0 ≤ V double u) (u5 : V double u ≤ 5) (np : Nm double p) (bp : Cl (V double p) 0 (p2 (3 * (j : Int)))) : ∃ m q, Go.floatBits .mul .f64 u p = some m ∧ Go.floatBits .sub .f64 (akk j) m = some q ∧ Nm double q ∧ Cl (V double q) 0 (p2 (3 * ((j + 1 : Nat) : Int))) := by
  obtain ⟨_, nc, c1, c0⟩ := akk_ok j hj
  have hP := p2_ge1 (3 * j)
  rw [show ((3 * j : Nat) : Int) = 3 * (j : Int) by omega] at hP
  have e3 : p2 (3 * (j : Int) + 3) = 8 * p2 (3 * (j : Int)) := by
    rw [p2_add, show p2 3 = 8 by decide +kernel]; grind
  have ej : (3 * ((j + 1 : Nat) : Int)) = 3 * (j : Int) + 3 := by omega
  rw [ej, e3]
  unfold Cl at bp
  have a := Rat.mul_nonneg (a := V double u) (b := p2 (3 * (j : Int)) - V double p) u0 (by grind)
  have b := Rat.mul_nonneg (a := V double u) (b := p2 (3 * (j : Int)) + V double p) u0 (by grind)
  have c := Rat.mul_nonneg (a := 5 - V double u) (b := p2 (3 * (j : Int))) (by grind) (by grind)
  have h1 : Cl (V double u * V double p) 0 (5 * p2 (3 * (j : Int))) := by unfold Cl; constructor <;> grind
  obtain ⟨m, hm, nm, cm, _⟩ := mul_near good_double nu np (3 * (j : Int) + 3) (by rw [e3]; exact h1.mono (by grind)) (ex_double (by omega) (by omega))
  have us := ulp_small (3 * (j : Int) + 3) (by omega)
  unfold Cl at cm h1
  have h2 : Cl (V double (akk j) - V double m) 0 (5 * p2 (3 * (j : Int)) + 5 / 4) := by unfold Cl; constructor <;> grind
  obtain ⟨q, hq, nq, cq, _⟩ := sub_near good_double nc nm (3 * (j : Int) + 3) (by rw [e3]; exact h2.mono (by grind)) (ex_double (by omega) (by omega))
  unfold Cl at cq h2
  exact ⟨m, q, hm, hq, nq, by unfold Cl; constructor <;> grind⟩
/-- The series, behind so many terms. -/
def PJ (u : Nat) : Nat → Nat
  | 0 => 0
  | j + 1 => fop .sub .f64 (akk j) (fop .mul .f64 u (PJ u j))
theorem V_zero64 : Nm double 0 ∧ V double 0 = 0 := by
  have := V_wd (f := double) fit_double 0 0 (by decide) (by decide)
  rw [wd_zero] at this
  exact ⟨this.1, by rw [this.2]; decide +kernel⟩
theorem PJ_ok (u : Nat) (nu : Nm double u) (u0 : 0 ≤ V double u) (u5 : V double u ≤ 5) : ∀ j, j ≤ 8 → Nm double (PJ u j) ∧ Cl (V double (PJ u j)) 0 (p2 (3 * (j : Int))) := by
  intro j
  induction j with
  | zero =>
    intro _
    refine ⟨V_zero64.1, ?_⟩
    show Cl (V double 0) 0 (p2 (3 * ((0 : Nat) : Int)))
    rw [V_zero64.2]
    exact Cl.refl _ (Rat.le_of_lt (p2_pos _))
  | succ j ih =>
    intro hj
    obtain ⟨n, b⟩ := ih (by omega)
    obtain ⟨m, q, hm, hq, nq, bq⟩ := poly_step u (PJ u j) j (by omega) nu u0 u5 n b
    have e : PJ u (j + 1) = q := by
      show fop .sub .f64 (akk j) (fop .mul .f64 u (PJ u j)) = q
      have e1 : fop .mul .f64 u (PJ u j) = m := by unfold fop; rw [hm]; rfl
      rw [e1]
      unfold fop; rw [hq]; rfl
    rw [e]
    exact ⟨nq, bq⟩
theorem PJ_next (u : Nat) (nu : Nm double u) (u0 : 0 ≤ V double u) (u5 : V double u ≤ 5) (j : Nat) (hj : j < 8) : ∃ m, Go.floatBits .mul .f64 u (PJ u j) = some m ∧ Go.floatBits .sub .f64 (akk j) m = some (PJ u (j + 1)) := by
  obtain ⟨n, b⟩ := PJ_ok u nu u0 u5 j (by omega)
  obtain ⟨m, q, hm, hq, nq, bq⟩ := poly_step u (PJ u j) j hj nu u0 u5 n b
  have e : PJ u (j + 1) = q := by
    show fop .sub .f64 (akk j) (fop .mul .f64 u (PJ u j)) = q
    have e1 : fop .mul .f64 u (PJ u j) = m := by unfold fop; rw [hm]; rfl
    rw [e1]
    unfold fop; rw [hq]; rfl
  exact ⟨m, hm, by rw [e]; exact hq⟩
/-- The halvings, behind so many. -/
def TJ (t : Nat) : Nat → Nat
  | 0 => t
  | i + 1 => fop .quo .f64 (TJ t i) (fop .add .f64 W1 ((double.sqrt (fop .add .f64 W1 (fop .mul .f64 (TJ t i) (TJ t i)))).getD 0))
theorem TJ_next {t i : Nat} {s a r b T : Nat} (h1 : Go.floatBits .mul .f64 (TJ t i) (TJ t i) = some s) (h2 : Go.floatBits .add .f64 W1 s = some a) (h3 : double.sqrt a = some r) (h4 : Go.floatBits .add .f64 W1 r = some b) (h5 : Go.floatBits .quo .f64 (TJ t i) b = some T) : TJ t (i + 1) = T := by
  show fop .quo .f64 (TJ t i) (fop .add .f64 W1 ((double.sqrt (fop .add .f64 W1 (fop .mul .f64 (TJ t i) (TJ t i)))).getD 0)) = T
  have e1 : fop .mul .f64 (TJ t i) (TJ t i) = s := by unfold fop; rw [h1]; rfl
  have e2 : fop .add .f64 W1 s = a := by unfold fop; rw [h2]; rfl
  have e4 : fop .add .f64 W1 r = b := by unfold fop; rw [h4]; rfl
  rw [e1, e2, h3]
  show fop .quo .f64 (TJ t i) (fop .add .f64 W1 r) = T
  rw [e4]
  unfold fop; rw [h5]; rfl
theorem TJ_ok (t : Nat) (n : Nm double t) (h0 : 0 ≤ V double t) (h2 : V double t ≤ 2) : ∀ i, Nm double (TJ t i) ∧ 0 ≤ V double (TJ t i) ∧ V double (TJ t i) ≤ 2 := by
  intro i
  induction i with
  | zero => exact ⟨n, h0, h2⟩
  | succ i ih =>
    obtain ⟨s, a, r, b, T, k1, k2, k3, k4, k5, k6⟩ := half_step (TJ t i) ih.1 ih.2.1 ih.2.2
    rw [TJ_next k1 k2 k3 k4 k5]
    exact k6
theorem TJ_steps (t : Nat) (n : Nm double t) (h0 : 0 ≤ V double t) (h2 : V double t ≤ 2) (i : Nat) : ∃ s a r b, Go.floatBits .mul .f64 (TJ t i) (TJ t i) = some s ∧ Go.floatBits .add .f64 W1 s = some a ∧ double.sqrt a = some r ∧ Go.floatBits .add .f64 W1 r = some b ∧ Go.floatBits .quo .f64 (TJ t i) b = some (TJ t (i + 1)) := by
  have ih := TJ_ok t n h0 h2 i
  obtain ⟨s, a, r, b, T, k1, k2, k3, k4, k5, k6⟩ := half_step (TJ t i) ih.1 ih.2.1 ih.2.2
  exact ⟨s, a, r, b, k1, k2, k3, k4, by rw [TJ_next k1 k2 k3 k4 k5]; exact k5⟩

/-! ### The end -/
theorem narrow_lt {b r : Nat} (h : Go.floatToFloatBits .f64 b .f32 = some r) : r < 4294967296 := by
  unfold Go.floatToFloatBits at h
  rw [if_neg (by decide)] at h
  rw [← width32]
  split at h
  · cases h
  · injection h with h; rw [← h]; exact write_lt single _
  · split at h
    · cases h
    · injection h with h; rw [← h]; exact write_lt single _
theorem turn_V : Nm double 4618760256179416344 ∧ 6 ≤ V double 4618760256179416344 ∧ V double 4618760256179416344 ≤ 7 := by
  refine ⟨fin_Nm64 (by decide +kernel), by decide +kernel, by decide +kernel⟩
theorem eight_V : Nm double 4620693217682128896 ∧ V double 4620693217682128896 = 8 := ⟨fin_Nm64 (by decide +kernel), by decide +kernel⟩
theorem quarter_V : Nm double 4598175219545276416 ∧ Cl (V double 4598175219545276416) 0 1 := ⟨fin_Nm64 (by decide +kernel), by unfold Cl; constructor <;> decide +kernel⟩
theorem halfw_V : Nm double 4602678819172646912 ∧ Cl (V double 4602678819172646912) 0 1 := ⟨fin_Nm64 (by decide +kernel), by unfold Cl; constructor <;> decide +kernel⟩
theorem sub_some (k q : Nat) (n : Nat) (hn : n ≤ 40) (nk : Nm double k) (bk : Cl (V double k) 0 1) (nq : Nm double q) (bq : Cl (V double q) 0 (p2 (n : Int))) : ∃ r, Go.floatBits .sub .f64 k q = some r ∧ Nm double r ∧ Cl (V double r) 0 (p2 ((n + 2 : Nat) : Int)) := by
  have hP := p2_ge1 n
  have e2 : p2 ((n + 2 : Nat) : Int) = 4 * p2 (n : Int) := by
    rw [show ((n + 2 : Nat) : Int) = (n : Int) + 2 by omega, p2_add, show p2 2 = 4 by decide +kernel]; grind
  unfold Cl at bk bq
  obtain ⟨r, hr, nr, cr, _⟩ := sub_near good_double nk nq ((n + 2 : Nat) : Int) (by rw [e2]; unfold Cl; constructor <;> grind) (ex_double (by omega) (by omega))
  have us := ulp_small ((n + 2 : Nat) : Int) (by omega)
  unfold Cl at cr
  exact ⟨r, hr, nr, by rw [e2]; unfold Cl; constructor <;> grind⟩
theorem narrow_some (q : Nat) (nq : Nm double q) (bq : Cl (V double q) 0 (p2 100)) : ∃ r, Go.floatToFloatBits .f64 q .f32 = some r ∧ r < 4294967296 ∧ Nm single r := by
  obtain ⟨r, hr, hn, _⟩ := narrow_V nq 100 bq (ex_single (by omega) (by omega))
  exact ⟨r, hr, narrow_lt hr, hn⟩
theorem angle_end (t p : Nat) (nt : Nm double t) (t0 : 0 ≤ V double t) (t2 : V double t ≤ 2) (np : Nm double p) (bp : Cl (V double p) 0 (p2 24)) : ∃ a b q, Go.floatBits .mul .f64 t p = some a ∧ Go.floatBits .mul .f64 4620693217682128896 a = some b ∧ Go.floatBits .quo .f64 b 4618760256179416344 = some q ∧ Nm double q ∧ Cl (V double q) 0 (p2 30) := by
  obtain ⟨n8, v8⟩ := eight_V
  obtain ⟨n6, v6, v7⟩ := turn_V
  have hP : 1 ≤ p2 24 := by decide +kernel
  have e26 : p2 26 = 4 * p2 24 := by decide +kernel
  have e29 : p2 29 = 32 * p2 24 := by decide +kernel
  have e30 : p2 30 = 64 * p2 24 := by decide +kernel
  unfold Cl at bp
  have a1 := Rat.mul_nonneg (a := V double t) (b := p2 24 - V double p) t0 (by grind)
  have a2 := Rat.mul_nonneg (a := V double t) (b := p2 24 + V double p) t0 (by grind)
  have a3 := Rat.mul_nonneg (a := 2 - V double t) (b := p2 24) (by grind) (by grind)
  obtain ⟨a, ha, na, ca, _⟩ := mul_near good_double nt np 26 (by rw [e26]; unfold Cl; constructor <;> grind) (ex_double (by omega) (by omega))
  have u1 := ulp_small 26 (by omega)
  unfold Cl at ca
  have ba : Cl (V double a) 0 (3 * p2 24) := by unfold Cl; constructor <;> grind
  unfold Cl at ba
  obtain ⟨b, hb, nb, cb, _⟩ := mul_near good_double n8 na 29 (by rw [e29, v8]; unfold Cl; constructor <;> grind) (ex_double (by omega) (by omega))
  have u2 := ulp_small 29 (by omega)
  rw [v8] at cb
  unfold Cl at cb
  have bb : Cl (V double b) 0 (25 * p2 24) := by unfold Cl; constructor <;> grind
  unfold Cl at bb
  have hq := quo_ex (V double b) (V double 4618760256179416344) (by grind)
  have hi : 0 < (V double 4618760256179416344)⁻¹ := Rat.inv_pos.2 (by grind)
  have hi1 : (V double 4618760256179416344)⁻¹ ≤ 1 := by
    have h1 := Rat.mul_inv_cancel (V double 4618760256179416344) (by grind)
    have h2 := Rat.mul_le_mul_of_nonneg_right v6 (Rat.le_of_lt hi)
    grind
  generalize hy : (V double 4618760256179416344)⁻¹ = y at *
  have b1 := Rat.mul_nonneg (a := 25 * p2 24 - V double b) (b := y) (by grind) (by grind)
  have b2 := Rat.mul_nonneg (a := 25 * p2 24 + V double b) (b := y) (by grind) (by grind)
  have b3 := Rat.mul_nonneg (a := 1 - y) (b := 25 * p2 24) (by grind) (by grind)
  have bq : Cl (V double b * y) 0 (25 * p2 24) := by unfold Cl; constructor <;> grind
  obtain ⟨q, hq2, nq, cq, _⟩ := div_near good_double nb n6 (by grind) 29 _ hq (by rw [e29]; exact bq.mono (by grind)) (ex_double (by omega) (by omega)) (by decide)
  have u3 := ulp_small (29 + 2) (by omega)
  unfold Cl at cq bq
  exact ⟨a, b, q, ha, hb, hq2, nq, by rw [e30]; unfold Cl; constructor <;> grind⟩

/-! ### The beginning -/
theorem abs_V {b : Nat} (h : fin .f32 b = true) : Nm double (widen b % 9223372036854775808) ∧ 0 ≤ V double (widen b % 9223372036854775808) ∧ (V double (widen b % 9223372036854775808) = 0 ↔ V single b = 0) := by
  have sw : double.signWeight = 9223372036854775808 := by decide
  unfold fin at h
  cases hd : FloatKind.f32.decode b with
  | nan s t => rw [show FloatKind.f32.format.read b = .nan s t from hd] at h; cases h
  | infinity s => rw [show FloatKind.f32.format.read b = .infinity s from hd] at h; cases h
  | number s m i =>
    obtain ⟨r, hr, hw, hread, hsm⟩ := widen_number hd
    have hlt := double.infRung_lt
    have e : widen b % 9223372036854775808 = double.word false r := by
      rw [hw, ← sw]
      unfold Format.word
      cases s
      · simp [Nat.mod_eq_of_lt (show r < double.signWeight by omega)]
      · simp [Nat.mod_eq_of_lt (show r < double.signWeight by omega)]
    have e2 := read_word double false r hr
    rw [e]
    have ev : V double (double.word false r) = (rungMag double r : Rat) * p2 (rungPlace double r) := by
      rw [V_of e2]; unfold vn sr; simp
    have es : V single b = sr s * ((rungMag double r : Rat) * p2 (rungPlace double r)) := by
      rw [V_of (show single.read b = .number s m i from hd)]
      unfold vn
      rw [hsm.val]
    refine ⟨⟨_, _, _, e2⟩, ?_, ?_⟩
    · rw [ev]; exact mag_nonneg _ _
    · rw [ev, es]
      unfold sr
      generalize (rungMag double r : Rat) * p2 (rungPlace double r) = z
      cases s
      · simp
      · simp only [if_true]
        constructor <;> intro h0 <;> grind
theorem quot_some {A B : Nat} (nA : Nm double A) (nB : Nm double B) (h : V double A ≠ 0 ∨ V double B ≠ 0) : ∃ t, Go.floatBits .quo .f64 A B = some t := by
  obtain ⟨s, m, i, hA⟩ := nA
  obtain ⟨t, n, j, hB⟩ := nB
  rw [V_of hA, V_of hB] at h
  show ∃ t, double.div A B = some t
  unfold Format.div
  rw [hA, hB]
  by_cases hn : n = 0
  · by_cases hm : m = 0
    · subst hn; subst hm
      rw [vn_zero, vn_zero] at h
      simp at h
    · exact ⟨double.write (.infinity (s ^^ t)), by simp [Datum.quotient, hn, hm]⟩
  · exact ⟨_, by simp only [Datum.quotient, if_neg hn]; rfl⟩
theorem start_ok {x y : Nat} (nx : Nm double x) (ny : Nm double y) (x0 : 0 ≤ V double x) (hy : 0 < V double y) (hxy : V double x ≤ V double y) : ∃ t, Go.floatBits .quo .f64 x y = some t ∧ Nm double t ∧ 0 ≤ V double t ∧ V double t ≤ 2 := by
  have hq := quo_ex (V double x) (V double y) hy
  have q0 := quo_pos hy x0 hq
  have q1 : V double x * (V double y)⁻¹ ≤ 1 := by
    have hi : 0 < (V double y)⁻¹ := Rat.inv_pos.2 hy
    have h1 := Rat.mul_inv_cancel (V double y) (by grind)
    have h2 := Rat.mul_le_mul_of_nonneg_right hxy (Rat.le_of_lt hi)
    grind
  obtain ⟨t, ht, nt, ct, pt⟩ := div_near good_double nx ny (by grind) 0 _ hq (by rw [p2_zero]; unfold Cl; constructor <;> grind) (ex_double (by omega) (by omega)) (by decide)
  have u := ulp_small (0 + 2) (by omega)
  unfold Cl at ct
  exact ⟨t, ht, nt, pt q0, by grind⟩
theorem square_ok (t : Nat) (nt : Nm double t) (t0 : 0 ≤ V double t) (t2 : V double t ≤ 2) : ∃ u, Go.floatBits .mul .f64 t t = some u ∧ Nm double u ∧ 0 ≤ V double u ∧ V double u ≤ 5 := by
  have e2 : p2 2 = 4 := by decide +kernel
  have hs0 := Rat.mul_nonneg t0 t0
  have hs4 : V double t * V double t ≤ 4 := by
    have := sq_mono t0 t2
    grind
  obtain ⟨s, hs, ns, cs, ps⟩ := mul_near good_double nt nt 2 (by rw [e2]; unfold Cl; constructor <;> grind) (ex_double (by omega) (by omega))
  have us := ulp_small 2 (by omega)
  unfold Cl at cs
  exact ⟨s, hs, ns, ps hs0, by grind⟩
end Go.Proofs.Ytegojadabfeokaa
