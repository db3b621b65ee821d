/- Plain facts: words of a binary format as rational numbers; what rounding adds. No program. Plain facts: sums, differences, products, quotients, roots and conversions of words, as near as they are to those of the numbers. No program. Plain facts: roots and conversions of words, their order, and words whose numbers are known. No program. -/
import Derived.Test.YtmlocjcfcmifdaaFx
import Derived.Test.YtmlocjcfcmifdaaFy
namespace Go.Proofs.Ytmlocjcfcmifdaa
open Ieee

def p2 (i : Int) : Rat := (2 : Rat) ^ i
theorem p2_pos (i : Int) : 0 < p2 i := Rat.zpow_pos (by decide)
theorem p2_add (i j : Int) : p2 (i + j) = p2 i * p2 j := Rat.zpow_add (by decide) i j
theorem p2_zero : p2 0 = 1 := Rat.zpow_zero 2
theorem p2_nat (n : Nat) : p2 (n : Int) = ((2 ^ n : Nat) : Rat) := by
  show (2 : Rat) ^ (n : Int) = _
  rw [Rat.zpow_natCast, Rat.natCast_pow]; rfl
theorem p2_one : p2 1 = 2 := Rat.zpow_one 2
theorem p2_succ (i : Int) : p2 (i + 1) = 2 * p2 i := by rw [p2_add, p2_one]; grind
theorem p2_le {i j : Int} (h : i ≤ j) : p2 i ≤ p2 j := by
  obtain ⟨n, rfl⟩ : ∃ n : Nat, j = i + n := ⟨(j - i).toNat, by omega⟩
  rw [p2_add, p2_nat]
  have h1 : (1 : Rat) ≤ ((2 ^ n : Nat) : Rat) := by
    have := Rat.natCast_le_natCast.2 (Nat.one_le_two_pow (n := n))
    simpa using this
  have h2 := Rat.mul_le_mul_of_nonneg_left h1 (Rat.le_of_lt (p2_pos i))
  grind
theorem p2_split {i : Int} (n : Nat) (j : Int) (h : j = i + n) : p2 j = ((2 ^ n : Nat) : Rat) * p2 i := by
  subst h; rw [p2_add, p2_nat, Rat.mul_comm]

def sr (s : Bool) : Rat := if s then -1 else 1
def vn (s : Bool) (m : Nat) (i : Int) : Rat := sr s * ((m : Rat) * p2 i)
theorem sr_mul (s t : Bool) : sr (s ^^ t) = sr s * sr t := by cases s <;> cases t <;> (unfold sr; grind)
theorem sr_sg (s : Bool) : sr s = ((sg s : Int) : Rat) := by cases s <;> rfl
theorem vn_zero (s : Bool) (i : Int) : vn s 0 i = 0 := by unfold vn; simp
theorem mag_nonneg (m : Nat) (i : Int) : 0 ≤ (m : Rat) * p2 i := Rat.mul_nonneg Rat.natCast_nonneg (Rat.le_of_lt (p2_pos i))

/-- x and y are no further apart than e. -/
def Cl (x y e : Rat) : Prop := x - y ≤ e ∧ y - x ≤ e
theorem Cl.mono {x y e e' : Rat} (h : Cl x y e) (he : e ≤ e') : Cl x y e' := by unfold Cl at *; grind
theorem Cl.refl (x : Rat) {e : Rat} (h : 0 ≤ e) : Cl x x e := by unfold Cl; grind
theorem Cl.symm {x y e : Rat} (h : Cl x y e) : Cl y x e := ⟨h.2, h.1⟩
theorem Cl.trans {x y z e e' : Rat} (h : Cl x y e) (g : Cl y z e') : Cl x z (e + e') := by unfold Cl at *; grind
theorem vn_cl {s : Bool} {m n : Nat} {i j : Int} {e : Rat} (h : Cl ((m : Rat) * p2 i) ((n : Rat) * p2 j) e) : Cl (vn s m i) (vn s n j) e := by
  unfold vn Cl sr at *
  cases s
  · simp only [Bool.false_eq_true, if_false]; grind
  · simp only [if_true]; grind
theorem vn_abs {s : Bool} {m : Nat} {i : Int} {B : Rat} (h : Cl (vn s m i) 0 B) : (m : Rat) * p2 i ≤ B := by
  unfold vn Cl sr at *
  cases s
  · simp only [Bool.false_eq_true, if_false] at h; grind
  · simp only [if_true] at h; grind

/-- What cutting to even leaves: never more than half a unit. -/
theorem cut_even (s : Bool) (n d : Nat) (_hn : n ≠ 0) :
    2 * (Toward.even.cut s n d * 2 ^ d) ≤ 2 * n + 2 ^ d ∧ 2 * n ≤ 2 * (Toward.even.cut s n d * 2 ^ d) + 2 ^ d ∧ n / 2 ^ d ≤ Toward.even.cut s n d ∧ Toward.even.cut s n d ≤ n / 2 ^ d + 1 := by
  unfold Toward.cut
  by_cases hd : d ≤ n.log2 + 2
  · have e : 1 <<< min d (n.log2 + 2) = 2 ^ d := by rw [Nat.min_eq_left hd, Nat.shiftLeft_eq, Nat.one_mul]
    simp only [e]
    have hp := Nat.two_pow_pos d
    generalize 2 ^ d = g at *
    have h1 := Nat.div_add_mod n g
    have h2 := Nat.mod_lt n hp
    generalize n / g = q at *
    generalize n % g = r at *
    have e1 : (q + 1) * g = g * q + g := by rw [Nat.succ_mul, Nat.mul_comm]
    have e0 : (q + 0) * g = g * q := by rw [Nat.add_zero, Nat.mul_comm]
    by_cases c : (decide (g < 2 * r) || (g == 2 * r && q % 2 == 1)) = true
    · rw [c]
      have hb : g ≤ 2 * r := by
        simp only [Bool.or_eq_true, decide_eq_true_eq, Bool.and_eq_true, beq_iff_eq] at c
        omega
      simp only [Bool.toNat_true]
      omega
    · have c' : (decide (g < 2 * r) || (g == 2 * r && q % 2 == 1)) = false := by simpa using c
      rw [c']
      have hb : 2 * r ≤ g := by
        simp only [Bool.or_eq_false_iff, decide_eq_false_iff_not] at c'
        omega
      simp only [Bool.toNat_false]
      omega
  · have e : 1 <<< min d (n.log2 + 2) = 2 ^ (n.log2 + 2) := by rw [Nat.min_eq_right (by omega), Nat.shiftLeft_eq, Nat.one_mul]
    simp only [e]
    have h1 : n < 2 ^ (n.log2 + 1) := Nat.lt_log2_self
    have h2 : 2 ^ (n.log2 + 2) = 2 * 2 ^ (n.log2 + 1) := by rw [Nat.pow_succ, Nat.mul_comm]
    have h3 : 2 ^ (n.log2 + 2) ≤ 2 ^ d := Nat.pow_le_pow_right (by omega) (by omega)
    have q0 : n / 2 ^ (n.log2 + 2) = 0 := Nat.div_eq_of_lt (by omega)
    have r0 : n % 2 ^ (n.log2 + 2) = n := Nat.mod_eq_of_lt (by omega)
    have q1 : n / 2 ^ d = 0 := Nat.div_eq_of_lt (by omega)
    rw [q0, r0, q1]
    have c1 : decide (2 ^ (n.log2 + 2) < 2 * n) = false := by simp; omega
    have c2 : ((2 ^ (n.log2 + 2) : Nat) == 2 * n) = false := by rw [beq_eq_false_iff_ne]; omega
    rw [c1, c2]
    simp only [Bool.false_or, Bool.false_and, Bool.toNat_false]
    omega

/-- The number of a rung that has grown past its binade. -/
theorem rung_val (f : Format) (n k : Nat) (hk : k ≤ 2 * f.binade) (h : n = 0 ∨ f.binade ≤ k) :
    (rungMag f (n * f.binade + k) : Rat) * p2 (rungPlace f (n * f.binade + k)) = (k : Rat) * p2 (f.leastPlace + n) := by
  have hb := binade_pos f
  by_cases h2 : k = 2 * f.binade
  · subst h2
    have e : n * f.binade + 2 * f.binade = (n + 2) * f.binade := (Nat.add_mul ..).symm
    have h3 : ¬ ((n + 2) * f.binade < f.binade) := by
      rw [Nat.add_mul]; omega
    unfold rungMag rungPlace
    rw [e, if_neg h3, if_neg h3, Nat.mul_mod_left, Nat.mul_div_cancel _ hb, p2_split 1 (f.leastPlace + ((n + 2 - 1 : Nat) : Int)) (i := f.leastPlace + n) (by omega)]
    simp only [Nat.add_zero, Rat.natCast_mul]
    grind
  · by_cases h3 : k < f.binade
    · have hn : n = 0 := by omega
      subst hn
      have h4 : 0 * f.binade + k < f.binade := by omega
      unfold rungMag rungPlace
      rw [if_pos h4, if_pos h4]
      simp
    · obtain ⟨q, rfl⟩ : ∃ q, k = f.binade + q := ⟨k - f.binade, by omega⟩
      have hq : q < f.binade := by omega
      have e : n * f.binade + (f.binade + q) = (n + 1) * f.binade + q := by rw [Nat.succ_mul]; omega
      have hdiv : ((n + 1) * f.binade + q) / f.binade = n + 1 := by
        rw [Nat.add_comm, Nat.add_mul_div_right _ _ hb, Nat.div_eq_of_lt hq]; omega
      have hmod : ((n + 1) * f.binade + q) % f.binade = q := by
        rw [Nat.add_comm, Nat.add_mul_mod_self_right, Nat.mod_eq_of_lt hq]
      have hge : ¬ ((n + 1) * f.binade + q < f.binade) := by
        rw [Nat.succ_mul]; omega
      unfold rungMag rungPlace
      rw [e, if_neg hge, if_neg hge, hdiv, hmod]
      rfl

/-- The exponents up to which nothing is too great. -/
def top (f : Format) : Int := f.leastPlace + f.fractionBits + (2 ^ f.exponentBits : Nat) - 4
theorem top_single : top single = 126 := by decide
theorem top_double : top double = 1022 := by decide

theorem nearest_err (f : Format) (s : Bool) (m : Nat) (i : Int) (E : Int) (hE : (m : Rat) * p2 i ≤ p2 E) (hlow : f.leastPlace + f.fractionBits ≤ E) (htop : E ≤ top f) (hx : 4 ≤ 2 ^ f.exponentBits) :
    ∃ m' i', f.read (f.nearest s m i) = .number s m' i' ∧ Cl ((m' : Rat) * p2 i') ((m : Rat) * p2 i) (p2 (E - f.fractionBits - 1)) := by
  have hb := binade_pos f
  by_cases hz : m = 0
  · subst hz
    have e : f.nearest s 0 i = f.word s 0 := by unfold Format.nearest; rw [if_pos rfl]
    have hp : 0 < f.infRung := Nat.mul_pos (by omega) hb
    rw [e]
    refine ⟨_, _, read_word f s 0 hp, ?_⟩
    have : rungMag f 0 = 0 := by unfold rungMag; rw [if_pos hb]
    rw [this]
    have := p2_pos (E - f.fractionBits - 1)
    unfold Cl
    simp
    grind
  · have hl1 := Nat.log2_self_le hz
    have hl2 := @Nat.lt_log2_self m
    -- the exponent of the leading digit is at most E
    have hLE : i + m.log2 ≤ E := by
      apply Int.not_lt.1
      intro h
      have a : p2 (E + 1) ≤ p2 (i + m.log2) := p2_le (by omega)
      have b : p2 (i + m.log2) ≤ (m : Rat) * p2 i := by
        rw [p2_split m.log2 (i + m.log2) rfl]
        exact Rat.mul_le_mul_of_nonneg_right (Rat.natCast_le_natCast.2 hl1) (Rat.le_of_lt (p2_pos i))
      have c := p2_succ E
      have d := p2_pos E
      grind
    unfold Format.nearest
    rw [if_neg hz]
    have hlast : max (i + m.log2 - f.fractionBits) f.leastPlace ≤ E - f.fractionBits := by omega
    have hlast1 : f.leastPlace ≤ max (i + m.log2 - f.fractionBits) f.leastPlace := Int.le_max_right ..
    have hlast2 : i + m.log2 - f.fractionBits ≤ max (i + m.log2 - f.fractionBits) f.leastPlace := Int.le_max_left ..
    have hlast3 : max (i + m.log2 - f.fractionBits) f.leastPlace = f.leastPlace ∨ max (i + m.log2 - f.fractionBits) f.leastPlace = i + m.log2 - f.fractionBits := by omega
    generalize max (i + m.log2 - f.fractionBits) f.leastPlace = last at *
    obtain ⟨n, hn⟩ : ∃ n : Nat, last = f.leastPlace + n := ⟨(last - f.leastPlace).toNat, by omega⟩
    subst hn
    have en : (f.leastPlace + (n : Int) - f.leastPlace).toNat = n := by omega
    simp only [en]
    -- what is kept
    have hkeep : ∃ k, Toward.even.cut s (m <<< (i - (f.leastPlace + n)).toNat) (f.leastPlace + n - i).toNat = k ∧ k ≤ 2 * f.binade ∧ (n = 0 ∨ f.binade ≤ k) ∧ Cl ((k : Rat) * p2 (f.leastPlace + n)) ((m : Rat) * p2 i) (p2 (f.leastPlace + n - 1)) := by
      refine ⟨_, rfl, ?_⟩
      by_cases hi : f.leastPlace + n ≤ i
      · obtain ⟨u, hu⟩ : ∃ u : Nat, i = f.leastPlace + n + u := ⟨(i - (f.leastPlace + n)).toNat, by omega⟩
        have e1 : (i - (f.leastPlace + n)).toNat = u := by omega
        have e2 : (f.leastPlace + n - i).toNat = 0 := by omega
        rw [e1, e2, cut_exact0, Nat.shiftLeft_eq]
        have hub : m.log2 + u ≤ f.fractionBits := by omega
        refine ⟨?_, ?_, ?_⟩
        · have h1 : m * 2 ^ u < 2 ^ (m.log2 + 1) * 2 ^ u := Nat.mul_lt_mul_of_pos_right hl2 (Nat.two_pow_pos _)
          rw [← Nat.pow_add] at h1
          have h2 : 2 ^ (m.log2 + 1 + u) ≤ 2 ^ (f.fractionBits + 1) := Nat.pow_le_pow_right (by omega) (by omega)
          have h3 : 2 ^ (f.fractionBits + 1) = 2 * f.binade := by rw [Nat.pow_succ, Nat.mul_comm]; rfl
          omega
        · rcases hlast3 with h | h
          · left; omega
          · right
            have h1 : 2 ^ m.log2 * 2 ^ u ≤ m * 2 ^ u := Nat.mul_le_mul_right _ hl1
            rw [← Nat.pow_add, show m.log2 + u = f.fractionBits by omega] at h1
            exact h1
        · have e : ((m * 2 ^ u : Nat) : Rat) * p2 (f.leastPlace + n) = (m : Rat) * p2 i := by
            rw [p2_split u i hu, Rat.natCast_mul]; grind
          rw [e]
          exact Cl.refl _ (Rat.le_of_lt (p2_pos _))
      · obtain ⟨d, hd⟩ : ∃ d : Nat, f.leastPlace + n = i + d := ⟨(f.leastPlace + n - i).toNat, by omega⟩
        have e1 : (i - (f.leastPlace + n)).toNat = 0 := by omega
        have e2 : (f.leastPlace + n - i).toNat = d := by omega
        rw [e1, e2, Nat.shiftLeft_zero]
        obtain ⟨c1, c2, c3, c4⟩ := cut_even s m d hz
        have hpd := Nat.two_pow_pos d
        refine ⟨?_, ?_, ?_⟩
        · have h1 : m / 2 ^ d < 2 * f.binade := by
            rw [Nat.div_lt_iff_lt_mul hpd]
            have h3 : 2 * f.binade * 2 ^ d = 2 ^ (f.fractionBits + 1 + d) := by rw [Nat.pow_add, Nat.pow_succ, Nat.mul_comm 2 f.binade]; rfl
            rw [h3]
            exact Nat.lt_of_lt_of_le hl2 (Nat.pow_le_pow_right (by omega) (by omega))
          omega
        · rcases hlast3 with h | h
          · left; omega
          · right
            refine Nat.le_trans ?_ c3
            rw [Nat.le_div_iff_mul_le hpd]
            show 2 ^ f.fractionBits * 2 ^ d ≤ m
            rw [← Nat.pow_add, show f.fractionBits + d = m.log2 by omega]
            exact hl1
        · generalize Toward.even.cut s m d = k at *
          have r1 := Rat.natCast_le_natCast.2 c1
          have r2 := Rat.natCast_le_natCast.2 c2
          simp only [Rat.natCast_add, Rat.natCast_mul] at r1 r2
          have p0 := p2_pos i
          have q1 := Rat.mul_le_mul_of_nonneg_right r1 (Rat.le_of_lt p0)
          have q2 := Rat.mul_le_mul_of_nonneg_right r2 (Rat.le_of_lt p0)
          have z1 : p2 (f.leastPlace + n) = ((2 ^ d : Nat) : Rat) * p2 i := p2_split d _ hd
          have z2 : p2 (f.leastPlace + n) = 2 * p2 (f.leastPlace + n - 1) := by rw [← p2_succ]; congr 1; omega
          have two : ((2 : Nat) : Rat) = 2 := rfl
          rw [two] at q1 q2
          generalize p2 (f.leastPlace + n - 1) = h at *
          generalize p2 (f.leastPlace + n) = g at *
          generalize ((2 ^ d : Nat) : Rat) = D at *
          generalize p2 i = I at *
          have w1 : (k : Rat) * g = k * (D * I) := by rw [z1]
          have w2 : g = D * I := z1
          unfold Cl
          constructor <;> grind
    obtain ⟨k, ek, hk, hk2, hcl⟩ := hkeep
    rw [ek]
    have hroom : n + 2 < 2 ^ f.exponentBits - 1 := by unfold top at htop; omega
    have hr : n * f.binade + k < f.infRung := by
      unfold Format.infRung
      calc n * f.binade + k ≤ n * f.binade + 2 * f.binade := by omega
        _ = (n + 2) * f.binade := (Nat.add_mul ..).symm
        _ < _ := Nat.mul_lt_mul_of_pos_right hroom hb
    rw [Nat.min_eq_left (Nat.le_of_lt hr)]
    refine ⟨_, _, read_word f s _ hr, ?_⟩
    rw [rung_val f n k hk hk2]
    exact hcl.mono (p2_le (by omega))
end Go.Proofs.Ytmlocjcfcmifdaa
namespace Go.Proofs.Ytmlocjcfcmifdaa
open Ieee

def vd : Datum → Rat
  | .number s m i => vn s m i
  | _ => 0
/-- The number of a word. -/
def V (f : Format) (b : Nat) : Rat := vd (f.read b)
/-- The word is a number. -/
def Nm (f : Format) (b : Nat) : Prop := ∃ s m i, f.read b = .number s m i
theorem V_of {f : Format} {b : Nat} {s : Bool} {m : Nat} {i : Int} (h : f.read b = .number s m i) : V f b = vn s m i := by unfold V; rw [h]; rfl

theorem vn_signed (s : Bool) (m : Nat) (i c : Int) (h : c ≤ i) : vn s m i = ((signed s m (i - c).toNat : Int) : Rat) * p2 c := by
  rw [signed_sg]
  unfold vn
  rw [p2_split (i := c) (i - c).toNat i (by omega), sr_sg, Rat.intCast_mul, Rat.intCast_natCast, Rat.natCast_mul]
  grind

theorem is_vn (t : Int) (s : Bool) (c : Int) (h : t ≠ 0 → s = decide (t < 0)) : vn s t.natAbs c = (t : Rat) * p2 c := by
  by_cases h0 : t = 0
  · subst h0; rw [Int.natAbs_zero, vn_zero]; simp
  · rw [h h0]
    unfold vn sr
    by_cases hn : t < 0
    · rw [decide_eq_true hn, if_pos rfl]
      have e : (t : Rat) = -((t.natAbs : Nat) : Rat) := by
        rw [← Rat.intCast_natCast, ← Rat.intCast_neg]
        congr 1; omega
      rw [e]; grind
    · rw [decide_eq_false hn, if_neg (by decide)]
      have e : (t : Rat) = ((t.natAbs : Nat) : Rat) := by
        rw [← Rat.intCast_natCast]
        congr 1; omega
      rw [e]; grind

theorem sum_val (s t : Bool) (m n : Nat) (i j : Int) : ∃ q M c, Datum.sum (.number s m i) (.number t n j) = some (.number q M c) ∧ vn q M c = vn s m i + vn t n j ∧ (0 ≤ vn s m i + vn t n j → vn q M c = 0 ∨ q = false) := by
  refine ⟨_, _, _, rfl, ?_, ?_⟩
  · rw [is_vn _ _ _ (fun h => by rw [if_neg h]), vn_signed s m i (min i j) (Int.min_le_left ..), vn_signed t n j (min i j) (Int.min_le_right ..), Rat.intCast_add]
    grind
  · intro h
    rw [vn_signed s m i (min i j) (Int.min_le_left ..), vn_signed t n j (min i j) (Int.min_le_right ..), ← Rat.add_mul, ← Rat.intCast_add] at h
    generalize signed s m (i - min i j).toNat + signed t n (j - min i j).toNat = T at *
    by_cases h0 : T = 0
    · left; rw [h0]; exact vn_zero _ _
    · right
      rw [if_neg h0]
      simp only [decide_eq_false_iff_not]
      intro hneg
      have h1 : ((T : Int) : Rat) < 0 := Rat.intCast_neg_iff.2 hneg
      have p := p2_pos (min i j)
      have := Rat.mul_pos (a := -((T : Int) : Rat)) (by grind) p
      grind

/-- Of a format, all that is asked. -/
structure Good (f : Format) : Prop where
  fit : Fit f
  big : 4 ≤ 2 ^ f.exponentBits
  rung : f.binade ≤ f.infRung
theorem good_single : Good single := ⟨fit_single, by decide, binade_le_single⟩
theorem good_double : Good double := ⟨fit_double, by decide, binade_le_double⟩

/-- The exponents at which a format rounds as it says. -/
def Ex (f : Format) (E : Int) : Prop := f.leastPlace + f.fractionBits ≤ E ∧ E ≤ top f
theorem ex_single {E : Int} (h1 : -126 ≤ E) (h2 : E ≤ 126) : Ex single E := ⟨by rw [show single.leastPlace = -149 from by decide]; show (-149 : Int) + (23 : Nat) ≤ E; omega, by rw [top_single]; exact h2⟩
theorem ex_double {E : Int} (h1 : -1022 ≤ E) (h2 : E ≤ 1022) : Ex double E := ⟨by rw [show double.leastPlace = -1074 from by decide]; show (-1074 : Int) + (52 : Nat) ≤ E; omega, by rw [top_double]; exact h2⟩

def ulp (f : Format) (E : Int) : Rat := p2 (E - f.fractionBits - 1)
theorem ulp_pos (f : Format) (E : Int) : 0 < ulp f E := p2_pos _

section
variable {f : Format} (G : Good f)
include G

theorem write_near {s : Bool} {m : Nat} {i E : Int} (hE : Cl (vn s m i) 0 (p2 E)) (X : Ex f E) : Nm f (f.write (.number s m i)) ∧ Cl (V f (f.write (.number s m i))) (vn s m i) (ulp f E) ∧ (vn s m i = 0 ∨ s = false → 0 ≤ V f (f.write (.number s m i))) := by
  obtain ⟨m', i', h1, h2⟩ := nearest_err f s m i E (vn_abs hE) X.1 X.2 G.big
  have e : f.write (.number s m i) = f.nearest s m i := rfl
  rw [e]
  refine ⟨⟨_, _, _, h1⟩, ?_, ?_⟩
  · rw [V_of h1]; exact vn_cl h2
  · intro h
    rw [V_of h1]
    rcases h with h | h
    · have hm : m = 0 := by
        have p := p2_pos i
        apply Classical.byContradiction
        intro hm
        have : 0 < (m : Rat) := Rat.natCast_pos.2 (Nat.pos_of_ne_zero hm)
        have := Rat.mul_pos this p
        unfold vn sr at h
        cases s
        · simp only [Bool.false_eq_true, if_false] at h; grind
        · simp only [if_true] at h; grind
      subst hm
      have e2 : f.nearest s 0 i = f.word s 0 := by unfold Format.nearest; rw [if_pos rfl]
      have hp : 0 < f.infRung := Nat.lt_of_lt_of_le (binade_pos f) G.rung
      rw [e2, read_word f s 0 hp] at h1
      injection h1 with _ h3 _
      have e3 : rungMag f 0 = 0 := by unfold rungMag; rw [if_pos (binade_pos f)]
      rw [e3] at h3
      rw [← h3, vn_zero]
      exact Rat.le_refl
    · subst h
      unfold vn sr
      have := mag_nonneg m' i'
      simp only [Bool.false_eq_true, if_false]
      grind

theorem add_near {x y : Nat} (hx : Nm f x) (hy : Nm f y) (E : Int) (hE : Cl (V f x + V f y) 0 (p2 E)) (X : Ex f E) : ∃ r, f.add x y = some r ∧ Nm f r ∧ Cl (V f r) (V f x + V f y) (ulp f E) ∧ (0 ≤ V f x + V f y → 0 ≤ V f r) := by
  obtain ⟨s, m, i, hx⟩ := hx
  obtain ⟨t, n, j, hy⟩ := hy
  rw [V_of hx, V_of hy] at *
  obtain ⟨q, M, c, e, hv, hs⟩ := sum_val s t m n i j
  rw [← hv] at hE hs ⊢
  obtain ⟨h1, h2, h3⟩ := write_near G hE X
  exact ⟨f.write (.number q M c), by unfold Format.add; rw [hx, hy, e]; rfl, h1, h2, fun h => h3 (hs h)⟩

theorem sub_near {x y : Nat} (hx : Nm f x) (hy : Nm f y) (E : Int) (hE : Cl (V f x - V f y) 0 (p2 E)) (X : Ex f E) : ∃ r, f.sub x y = some r ∧ Nm f r ∧ Cl (V f r) (V f x - V f y) (ulp f E) ∧ (0 ≤ V f x - V f y → 0 ≤ V f r) := by
  obtain ⟨s, m, i, hx⟩ := hx
  obtain ⟨t, n, j, hy⟩ := hy
  have ho : vn (!t) n j = - vn t n j := by
    unfold vn sr; cases t <;> simp <;> grind
  rw [V_of hx, V_of hy, Rat.sub_eq_add_neg, ← ho] at hE ⊢
  obtain ⟨q, M, c, e, hv, hs⟩ := sum_val s (!t) m n i j
  rw [← hv] at hE hs ⊢
  obtain ⟨h1, h2, h3⟩ := write_near G hE X
  exact ⟨f.write (.number q M c), by unfold Format.sub; rw [hx, hy]; show (Datum.sum _ (Datum.number (!t) n j)).map _ = _; rw [e]; rfl, h1, h2, fun h => h3 (hs h)⟩

theorem mul_near {x y : Nat} (hx : Nm f x) (hy : Nm f y) (E : Int) (hE : Cl (V f x * V f y) 0 (p2 E)) (X : Ex f E) : ∃ r, f.mul x y = some r ∧ Nm f r ∧ Cl (V f r) (V f x * V f y) (ulp f E) ∧ (0 ≤ V f x * V f y → 0 ≤ V f r) := by
  obtain ⟨s, m, i, hx⟩ := hx
  obtain ⟨t, n, j, hy⟩ := hy
  have hv : vn (s ^^ t) (m * n) (i + j) = vn s m i * vn t n j := by
    unfold vn; rw [sr_mul, p2_add, Rat.natCast_mul]; grind
  rw [V_of hx, V_of hy, ← hv] at hE ⊢
  obtain ⟨h1, h2, h3⟩ := write_near G hE X
  refine ⟨f.write (.number (s ^^ t) (m * n) (i + j)), by unfold Format.mul; rw [hx, hy]; rfl, h1, h2, fun h => h3 ?_⟩
  cases hq : (s ^^ t)
  · exact .inr rfl
  · left
    unfold vn sr at *
    have := mag_nonneg (m * n) (i + j)
    simp only [if_true] at *
    grind
end

theorem log2_le_of {m : Nat} (h : m ≠ 0) : (2 ^ m.log2 : Nat) ≤ m ∧ m < 2 ^ (m.log2 + 1) := ⟨Nat.log2_self_le h, Nat.lt_log2_self⟩

/-- A quotient to some digits and one more. -/
theorem quotient_val (dg : Nat) (s t : Bool) (m n : Nat) (i j : Int) (hn : n ≠ 0) (E : Int) (hE : Cl (vn s m i) 0 (p2 E * ((n : Rat) * p2 j))) :
    ∃ M c, Datum.quotient dg (.number s m i) (.number t n j) = some (.number (s ^^ t) M c) ∧ ∃ q : Rat, q * vn t n j = vn s m i ∧ Cl (vn (s ^^ t) M c) q (p2 (E - dg)) ∧ (0 ≤ q → vn (s ^^ t) M c = 0 ∨ (s ^^ t) = false) := by
  have hq : Datum.quotient dg (.number s m i) (.number t n j) = some (.number (s ^^ t) (2 * ((m <<< (dg + n.log2 - m.log2)) / n) + ((m <<< (dg + n.log2 - m.log2)) % n != 0).toNat) (i - j - (dg + n.log2 - m.log2 : Nat) - 1)) := by
    simp only [Datum.quotient, if_neg hn]
  refine ⟨_, _, hq, ?_⟩
  have hnp : 0 < (n : Rat) := Rat.natCast_pos.2 (Nat.pos_of_ne_zero hn)
  have hn0 : (n : Rat) ≠ 0 := by grind
  have hE' := vn_abs hE
  by_cases hm : m = 0
  · subst hm
    refine ⟨0, ?_, ?_, ?_⟩
    · rw [vn_zero]; grind
    · rw [Nat.zero_shiftLeft, Nat.zero_div, Nat.zero_mod]
      simp only [Nat.mul_zero, bne_self_eq_false, Bool.toNat_false, Nat.add_zero]
      rw [vn_zero]
      exact Cl.refl _ (Rat.le_of_lt (p2_pos _))
    · intro _
      left
      rw [Nat.zero_shiftLeft, Nat.zero_div, Nat.zero_mod]
      simp only [Nat.mul_zero, bne_self_eq_false, Bool.toNat_false, Nat.add_zero]
      exact vn_zero _ _
  · generalize hmore : dg + n.log2 - m.log2 = more at *
    have hQ : 0 < (m : Rat) * (n : Rat)⁻¹ * p2 (i - j) := Rat.mul_pos (Rat.mul_pos (Rat.natCast_pos.2 (Nat.pos_of_ne_zero hm)) (Rat.inv_pos.2 hnp)) (p2_pos _)
    refine ⟨sr (s ^^ t) * ((m : Rat) * (n : Rat)⁻¹ * p2 (i - j)), ?_, ?_, fun h => ?_⟩
    rotate_left 2
    · right
      generalize (m : Rat) * (n : Rat)⁻¹ * p2 (i - j) = Q at *
      cases hst : (s ^^ t)
      · rfl
      · rw [hst] at h
        unfold sr at h
        simp only [if_true] at h
        grind
    · unfold vn
      have e1 : p2 i = p2 (i - j) * p2 j := by rw [← p2_add]; congr 1; omega
      have e2 : (n : Rat)⁻¹ * n = 1 := Rat.inv_mul_cancel _ hn0
      have e3 : sr (s ^^ t) * sr t = sr s := by cases s <;> cases t <;> (unfold sr; grind)
      rw [e1, ← e3]
      calc sr (s ^^ t) * ((m : Rat) * (n : Rat)⁻¹ * p2 (i - j)) * (sr t * ((n : Rat) * p2 j)) = sr (s ^^ t) * sr t * ((m : Rat) * (p2 (i - j) * p2 j)) * ((n : Rat)⁻¹ * n) := by grind
        _ = _ := by rw [e2]; grind
    · rw [Nat.shiftLeft_eq]
      have h1 := Nat.div_add_mod (m * 2 ^ more) n
      have h2 := Nat.mod_lt (m * 2 ^ more) (Nat.pos_of_ne_zero hn)
      -- what is told is at most one unit away
      have hst : 2 * (m * 2 ^ more) ≤ (2 * ((m * 2 ^ more) / n) + ((m * 2 ^ more) % n != 0).toNat) * n + n ∧ (2 * ((m * 2 ^ more) / n) + ((m * 2 ^ more) % n != 0).toNat) * n ≤ 2 * (m * 2 ^ more) + n := by
        generalize m * 2 ^ more = D at *
        have e0 : (2 * (D / n)) * n = 2 * (n * (D / n)) := by rw [Nat.mul_assoc, Nat.mul_comm (D / n)]
        by_cases hr : D % n = 0
        · rw [hr]; simp only [bne_self_eq_false, Bool.toNat_false, Nat.add_zero]; omega
        · have : (D % n != 0) = true := by simpa using hr
          rw [this, Bool.toNat_true, Nat.add_mul, Nat.one_mul]; omega
      generalize 2 * ((m * 2 ^ more) / n) + ((m * 2 ^ more) % n != 0).toNat = M at *
      -- one unit is small
      have hunit : p2 (i - j - more - 1) ≤ p2 (E - dg) := by
        have a : (2 ^ (dg + n.log2) : Nat) ≤ m * 2 ^ more := by
          have := Nat.mul_le_mul_right (2 ^ more) (Nat.log2_self_le hm)
          rw [← Nat.pow_add] at this
          exact Nat.le_trans (Nat.pow_le_pow_right (by omega) (by omega)) this
        have b : n < 2 ^ (n.log2 + 1) := Nat.lt_log2_self
        apply p2_le
        apply Int.not_lt.1
        intro h
        -- 2^E < m/n 2^(i-j)
        have a' := Rat.natCast_le_natCast.2 a
        have b' := Rat.natCast_lt_natCast.2 b
        rw [Rat.natCast_mul, ← p2_nat, ← p2_nat] at a'
        rw [← p2_nat] at b'
        -- p2 (E) * n < p2 E * p2 (log+1) <= p2 (i-j) * m
        have pE := p2_pos E
        have pj := p2_pos j
        have c1 : p2 E * (n : Rat) < p2 E * p2 ((n.log2 + 1 : Nat) : Int) := (Rat.mul_lt_mul_left pE).2 b'
        have c2 : p2 E * p2 ((n.log2 + 1 : Nat) : Int) ≤ p2 (i - j - more) * p2 ((dg + n.log2 : Nat) : Int) := by
          rw [← p2_add, ← p2_add]; exact p2_le (by omega)
        have c3 : p2 (i - j - more) * p2 ((dg + n.log2 : Nat) : Int) ≤ p2 (i - j - more) * ((m : Rat) * p2 (more : Int)) := Rat.mul_le_mul_of_nonneg_left a' (Rat.le_of_lt (p2_pos _))
        have c4 : p2 (i - j - more) * ((m : Rat) * p2 (more : Int)) = (m : Rat) * p2 (i - j) := by
          have : p2 (i - j) = p2 (i - j - more) * p2 (more : Int) := by rw [← p2_add]; congr 1; omega
          rw [this]; grind
        have c5 : p2 i = p2 (i - j) * p2 j := by rw [← p2_add]; congr 1; omega
        have c6 : p2 E * (n : Rat) < (m : Rat) * p2 (i - j) := by grind
        have c7 := (Rat.mul_lt_mul_left pj).2 c6
        rw [c5] at hE'
        grind
      refine Cl.mono ?_ hunit
      have e4 : p2 (i - j) = ((2 ^ more : Nat) : Rat) * (2 * p2 (i - j - more - 1)) := by
        rw [← p2_succ, ← p2_split]; omega
      have r1 := Rat.natCast_le_natCast.2 hst.1
      have r2 := Rat.natCast_le_natCast.2 hst.2
      simp only [Rat.natCast_add, Rat.natCast_mul] at r1 r2
      have two : ((2 : Nat) : Rat) = 2 := rfl
      rw [two] at r1 r2
      have e2 : (n : Rat) * (n : Rat)⁻¹ = 1 := Rat.mul_inv_cancel _ hn0
      have hi : 0 ≤ (n : Rat)⁻¹ := Rat.le_of_lt (Rat.inv_pos.2 hnp)
      have s1 := Rat.mul_le_mul_of_nonneg_right r1 hi
      have s2 := Rat.mul_le_mul_of_nonneg_right r2 hi
      have t1 : (2 * ((m : Rat) * ((2 ^ more : Nat) : Rat))) * (n : Rat)⁻¹ ≤ (M : Rat) + 1 := by
        have : ((M : Rat) * (n : Rat) + (n : Rat)) * (n : Rat)⁻¹ = (M : Rat) + 1 := by
          calc _ = ((M : Rat) + 1) * ((n : Rat) * (n : Rat)⁻¹) := by grind
            _ = _ := by rw [e2]; grind
        rw [← this]; exact s1
      have t2 : (M : Rat) ≤ (2 * ((m : Rat) * ((2 ^ more : Nat) : Rat))) * (n : Rat)⁻¹ + 1 := by
        have u1 : (M : Rat) * (n : Rat) * (n : Rat)⁻¹ = (M : Rat) := by
          calc _ = (M : Rat) * ((n : Rat) * (n : Rat)⁻¹) := by grind
            _ = _ := by rw [e2]; grind
        have u2 : (2 * ((m : Rat) * ((2 ^ more : Nat) : Rat)) + (n : Rat)) * (n : Rat)⁻¹ = (2 * ((m : Rat) * ((2 ^ more : Nat) : Rat))) * (n : Rat)⁻¹ + 1 := by
          calc _ = (2 * ((m : Rat) * ((2 ^ more : Nat) : Rat))) * (n : Rat)⁻¹ + (n : Rat) * (n : Rat)⁻¹ := by grind
            _ = _ := by rw [e2]
        rw [← u1, ← u2]; exact s2
      have pu := p2_pos (i - j - more - 1)
      have v1 := Rat.mul_le_mul_of_nonneg_right t1 (Rat.le_of_lt pu)
      have v2 := Rat.mul_le_mul_of_nonneg_right t2 (Rat.le_of_lt pu)
      have w : (2 * ((m : Rat) * ((2 ^ more : Nat) : Rat))) * (n : Rat)⁻¹ * p2 (i - j - more - 1) = (m : Rat) * (n : Rat)⁻¹ * p2 (i - j) := by rw [e4]; grind
      have key : Cl ((M : Rat) * p2 (i - j - more - 1)) ((m : Rat) * (n : Rat)⁻¹ * p2 (i - j)) (p2 (i - j - more - 1)) := by
        unfold Cl; constructor <;> grind
      unfold vn
      unfold Cl sr at *
      cases s <;> cases t <;> simp only [Bool.false_xor, Bool.true_xor, Bool.not_false, Bool.not_true, Bool.false_eq_true, if_false, if_true] <;> constructor <;> grind

theorem div_near {f : Format} (G : Good f) {x y : Nat} (hx : Nm f x) (hy : Nm f y) (hy0 : V f y ≠ 0) (E : Int) (q : Rat) (hq : q * V f y = V f x) (hE : Cl q 0 (p2 E)) (X : Ex f (E + 1)) (_hw : (1 : Int) ≤ f.fractionBits) : ∃ r, f.div x y = some r ∧ Nm f r ∧ Cl (V f r) q (ulp f (E + 2)) ∧ (0 ≤ q → 0 ≤ V f r) := by
  obtain ⟨s, m, i, hx⟩ := hx
  obtain ⟨t, n, j, hy⟩ := hy
  rw [V_of hx, V_of hy] at *
  have hn : n ≠ 0 := by
    intro e; subst e; exact hy0 (vn_zero _ _)
  have hE' : Cl (vn s m i) 0 (p2 E * ((n : Rat) * p2 j)) := by
    rw [← hq]
    have h1 := mag_nonneg n j
    unfold Cl at *
    obtain ⟨a, b⟩ := hE
    have a' := Rat.mul_le_mul_of_nonneg_right a h1
    have b' := Rat.mul_le_mul_of_nonneg_right b h1
    unfold vn sr
    cases t <;> simp only [Bool.false_eq_true, if_false, if_true] <;> constructor <;> grind
  obtain ⟨M, c, e, q', h1, h2, h7⟩ := quotient_val (f.fractionBits + 2) s t m n i j hn E hE'
  have eq : q' = q := by
    have h3 : (q' - q) * vn t n j = 0 := by grind
    rcases Rat.mul_eq_zero.1 h3 with h | h
    · grind
    · exact absurd h hy0
  subst eq
  have sm : p2 (E - ((f.fractionBits + 2 : Nat) : Int)) ≤ p2 E := p2_le (by omega)
  have hE2 : Cl (vn (s ^^ t) M c) 0 (p2 (E + 1)) := by
    rw [p2_succ]
    unfold Cl at *
    constructor <;> grind
  obtain ⟨k1, k2, k3⟩ := write_near G hE2 X
  refine ⟨_, by unfold Format.div; rw [hx, hy, e]; rfl, k1, (k2.trans h2).mono ?_, fun h0 => k3 (h7 h0)⟩
  unfold ulp
  have z1 : p2 (E + 2 - f.fractionBits - 1) = 2 * p2 (E + 1 - f.fractionBits - 1) := by rw [← p2_succ]; congr 1; omega
  have z2 : p2 (E - ((f.fractionBits + 2 : Nat) : Int)) ≤ p2 (E + 1 - f.fractionBits - 1) := p2_le (by omega)
  rw [z1]; grind
end Go.Proofs.Ytmlocjcfcmifdaa
namespace Go.Proofs.Ytmlocjcfcmifdaa
open Ieee

theorem Stands.vn {s : Bool} {m : Nat} {i : Int} {k : Nat} {n : Int} (h : Stands s m i k n) : vn s m i = (n : Rat) * p2 (-(k : Int)) := by
  obtain ⟨c, h1, h2, h3⟩ := h
  rw [vn_signed s m i c h1, signed_sg, h3, Rat.intCast_mul, Rat.intCast_natCast, Rat.mul_assoc, ← p2_split]
  omega
theorem Is.V {f : Format} {b k : Nat} {n : Int} (h : Is f b k n) : Nm f b ∧ V f b = (n : Rat) * p2 (-(k : Int)) := by
  obtain ⟨s, m, i, hr, hs⟩ := h
  exact ⟨⟨s, m, i, hr⟩, by rw [V_of hr, hs.vn]⟩
theorem V_wd {f : Format} (F : Fit f) (k : Nat) (n : Int) (hk : k + f.fractionBits ≤ 149) (hn : n.natAbs < 2 ^ (f.fractionBits + 1)) : Nm f (wd f k n) ∧ V f (wd f k n) = (n : Rat) * p2 (-(k : Int)) := (wd_is f F k n hk hn).V

theorem SameMag.val {m n : Nat} {i j : Int} (h : SameMag m i n j) : (m : Rat) * p2 i = (n : Rat) * p2 j := by
  unfold SameMag at h
  have h1 := congrArg (Nat.cast (R := Rat)) h
  rw [Rat.natCast_mul, Rat.natCast_mul] at h1
  rw [p2_split (i := min i j) (i - min i j).toNat i (by omega), p2_split (i := min i j) (j - min i j).toNat j (by omega)]
  grind

theorem widen_V {b : Nat} (h : Nm single b) : ∃ D, floatToFloatBits .f32 b .f64 = some D ∧ Nm double D ∧ V double D = V single b := by
  obtain ⟨s, m, i, h⟩ := h
  obtain ⟨r, hr, e, hs⟩ := single_double h
  have hd := read_word double s r hr
  refine ⟨double.word s r, ?_, ⟨_, _, _, hd⟩, ?_⟩
  · unfold floatToFloatBits
    rw [if_neg (by decide), show FloatKind.f32.decode b = .number s m i from h]
    show (if (FloatKind.f64.decode (double.nearest s m i)).isInfinity = true then none else some (double.nearest s m i)) = _
    rw [e, show FloatKind.f64.decode (double.word s r) = _ from hd]
    rfl
  · rw [V_of hd, V_of h]
    unfold vn
    rw [hs.val]

theorem narrow_V {b : Nat} (h : Nm double b) (E : Int) (hE : Cl (V double b) 0 (p2 E)) (X : Ex single E) : ∃ r, floatToFloatBits .f64 b .f32 = some r ∧ Nm single r ∧ Cl (V single r) (V double b) (ulp single E) ∧ (0 ≤ V double b → 0 ≤ V single r) := by
  obtain ⟨s, m, i, h⟩ := h
  rw [V_of h] at *
  obtain ⟨h1, h2, h3⟩ := write_near good_single hE X
  refine ⟨_, ?_, h1, h2, fun h0 => h3 ?_⟩
  · obtain ⟨s', m', i', h4⟩ := h1
    unfold floatToFloatBits
    rw [if_neg (by decide), show FloatKind.f64.decode b = .number s m i from h]
    show (if (FloatKind.f32.decode (single.write (.number s m i))).isInfinity = true then none else some (single.write (.number s m i))) = _
    rw [show FloatKind.f32.decode (single.write (.number s m i)) = _ from h4]
    rfl
  · cases s
    · exact .inr rfl
    · left
      unfold vn sr at *
      have := mag_nonneg m i
      simp only [if_true] at *
      grind

theorem order_V {f : Format} {x y : Nat} (hx : Nm f x) (hy : Nm f y) : f.order x y = some (if V f x < V f y then .lt else if V f x = V f y then .eq else .gt) := by
  obtain ⟨s, m, i, hx⟩ := hx
  obtain ⟨t, n, j, hy⟩ := hy
  rw [V_of hx, V_of hy]
  unfold Format.order
  rw [hx, hy]
  show some (compare (signed s m (i - min i j).toNat) (signed t n (j - min i j).toNat)) = _
  rw [vn_signed s m i (min i j) (Int.min_le_left ..), vn_signed t n j (min i j) (Int.min_le_right ..)]
  generalize signed s m (i - min i j).toNat = A
  generalize signed t n (j - min i j).toNat = B
  have p := p2_pos (min i j)
  have h1 : ((A : Int) : Rat) * p2 (min i j) < ((B : Int) : Rat) * p2 (min i j) ↔ A < B := by
    rw [← Rat.intCast_lt_intCast (a := A) (b := B), Rat.mul_comm _ (p2 _), Rat.mul_comm _ (p2 _)]
    exact Rat.mul_lt_mul_left p
  have h2 : ((A : Int) : Rat) * p2 (min i j) = ((B : Int) : Rat) * p2 (min i j) ↔ A = B := by
    rw [← Rat.intCast_inj (a := A) (b := B)]
    constructor
    · intro h
      have h3 : (((A : Int) : Rat) - ((B : Int) : Rat)) * p2 (min i j) = 0 := by grind
      rcases Rat.mul_eq_zero.1 h3 with h | h
      · grind
      · grind
    · intro h; rw [h]
  show some (compareOfLessAndEq A B) = _
  unfold compareOfLessAndEq
  congr 1
  by_cases h : A < B
  · rw [if_pos h, if_pos (h1.2 h)]
  · rw [if_neg h, if_neg (fun e => h (h1.1 e))]
    by_cases h' : A = B
    · rw [if_pos h', if_pos (h2.2 h')]
    · rw [if_neg h', if_neg (fun e => h' (h2.1 e))]

theorem V_lt {f : Format} {x y : Nat} (hx : Nm f x) (hy : Nm f y) : (f.order x y == some .lt) = decide (V f x < V f y) := by
  rw [order_V hx hy]
  by_cases h : V f x < V f y
  · rw [if_pos h, decide_eq_true h]; rfl
  · rw [if_neg h, decide_eq_false h]
    by_cases h' : V f x = V f y
    · rw [if_pos h']; rfl
    · rw [if_neg h']; rfl
theorem V_gt {f : Format} {x y : Nat} (hx : Nm f x) (hy : Nm f y) : (f.order x y == some .gt) = decide (V f y < V f x) := by
  rw [order_V hx hy]
  by_cases h : V f x < V f y
  · rw [if_pos h, decide_eq_false (by grind)]; rfl
  · rw [if_neg h]
    by_cases h' : V f x = V f y
    · rw [if_pos h', decide_eq_false (by grind)]; rfl
    · rw [if_neg h', decide_eq_true (by grind)]; rfl
theorem V_eq {f : Format} {x y : Nat} (hx : Nm f x) (hy : Nm f y) : (f.order x y == some .eq) = decide (V f x = V f y) := by
  rw [order_V hx hy]
  by_cases h : V f x < V f y
  · rw [if_pos h, decide_eq_false (by grind)]; rfl
  · rw [if_neg h]
    by_cases h' : V f x = V f y
    · rw [if_pos h', decide_eq_true h']; rfl
    · rw [if_neg h', decide_eq_false h']; rfl

/-- Trying the digits of a root one by one finds the whole root. -/
theorem rootFrom_ok (n : Nat) : ∀ (todo root : Nat), root * root ≤ n → n < (root + 2 ^ todo) * (root + 2 ^ todo) → Datum.rootFrom n todo root * Datum.rootFrom n todo root ≤ n ∧ n < (Datum.rootFrom n todo root + 1) * (Datum.rootFrom n todo root + 1) := by
  intro todo
  induction todo with
  | zero => intro root h1 h2; exact ⟨h1, h2⟩
  | succ todo ih =>
    intro root h1 h2
    unfold Datum.rootFrom
    simp only [Nat.shiftLeft_eq, Nat.one_mul]
    by_cases h : (root + 2 ^ todo) * (root + 2 ^ todo) ≤ n
    · rw [if_pos h]
      refine ih _ h ?_
      rw [Nat.add_assoc, show 2 ^ todo + 2 ^ todo = 2 ^ (todo + 1) by rw [Nat.pow_succ]; omega]
      exact h2
    · rw [if_neg h]
      exact ih _ h1 (by omega)
theorem root_ok (n : Nat) : Datum.rootFrom n (n.log2 / 2 + 1) 0 * Datum.rootFrom n (n.log2 / 2 + 1) 0 ≤ n ∧ n < (Datum.rootFrom n (n.log2 / 2 + 1) 0 + 1) * (Datum.rootFrom n (n.log2 / 2 + 1) 0 + 1) := by
  refine rootFrom_ok n _ 0 (by omega) ?_
  rw [Nat.zero_add, ← Nat.pow_add]
  exact Nat.lt_of_lt_of_le Nat.lt_log2_self (Nat.pow_le_pow_right (by omega) (by omega))

theorem sq_le {a b : Rat} (_ha : 0 ≤ a) (hb : 0 ≤ b) (h : a * a ≤ b * b) : a ≤ b := by
  apply Classical.byContradiction
  intro hn
  have h1 : b < a := by grind
  have h2 := Rat.mul_le_mul_of_nonneg_left (Rat.le_of_lt h1) hb
  have h3 := (Rat.mul_lt_mul_left (a := b) (b := a) (c := a) (by grind)).2 h1
  grind
theorem sq_lt {a b : Rat} (hb : 0 ≤ b) (h : a * a < b * b) : a < b := by
  apply Classical.byContradiction
  intro hn
  have h1 : b ≤ a := by grind
  have h2 := Rat.mul_le_mul_of_nonneg_left h1 hb
  have h3 := Rat.mul_le_mul_of_nonneg_right h1 (show 0 ≤ a by grind)
  grind
theorem sq_mono {a b : Rat} (ha : 0 ≤ a) (h : a ≤ b) : a * a ≤ b * b := by
  have h2 := Rat.mul_le_mul_of_nonneg_left h ha
  have h3 := Rat.mul_le_mul_of_nonneg_right h (show 0 ≤ b by grind)
  grind

/-- A root to some digits and one more. -/
theorem root_val (dg : Nat) (m : Nat) (i : Int) (E : Int) (hE : (m : Rat) * p2 i ≤ p2 E * p2 E) :
    ∃ M c, Datum.root dg (.number false m i) = some (.number false M c) ∧ (∀ a : Rat, 0 ≤ a → a * a ≤ (m : Rat) * p2 i → a ≤ (M : Rat) * p2 c + p2 (E - dg)) ∧ (∀ b : Rat, 0 ≤ b → (m : Rat) * p2 i ≤ b * b → (M : Rat) * p2 c ≤ b + p2 (E - dg)) := by
  by_cases hm : m = 0
  · subst hm
    refine ⟨0, i, by simp [Datum.root], ?_, ?_⟩
    · intro a ha h
      have hp := p2_pos (E - dg)
      have : a ≤ 0 := sq_le ha Rat.le_refl (by grind)
      grind
    · intro b hb _
      have hp := p2_pos (E - dg)
      grind
  · generalize hmore : (2 * dg - m.log2 + (((i - (2 * dg - m.log2 : Nat)) % 2).toNat) : Nat) = more
    have hq : Datum.root dg (.number false m i) = some (.number false (2 * Datum.rootFrom (m <<< more) ((m <<< more).log2 / 2 + 1) 0 + (Datum.rootFrom (m <<< more) ((m <<< more).log2 / 2 + 1) 0 * Datum.rootFrom (m <<< more) ((m <<< more).log2 / 2 + 1) 0 != (m <<< more)).toNat) ((i - more) / 2 - 1)) := by
      simp only [Datum.root, if_neg hm, Bool.false_eq_true, if_false, hmore]
    refine ⟨_, _, hq, ?_⟩
    obtain ⟨h, hh⟩ : ∃ h : Int, i - more = 2 * h := ⟨(i - more) / 2, by omega⟩
    have eh : (i - more) / 2 = h := by omega
    rw [eh, Nat.shiftLeft_eq]
    have hX : (m : Rat) * p2 i = ((m * 2 ^ more : Nat) : Rat) * (p2 h * p2 h) := by
      rw [Rat.natCast_mul, ← p2_add, Rat.mul_assoc, ← p2_split]; omega
    have hbig : 2 ^ (2 * dg) ≤ m * 2 ^ more := by
      have := Nat.mul_le_mul_right (2 ^ more) (Nat.log2_self_le hm)
      rw [← Nat.pow_add] at this
      exact Nat.le_trans (Nat.pow_le_pow_right (by omega) (by omega)) this
    rw [hX] at hE ⊢
    obtain ⟨w1, w2⟩ := root_ok (m * 2 ^ more)
    generalize m * 2 ^ more = n at *
    generalize Datum.rootFrom n (n.log2 / 2 + 1) 0 = r at *
    have ph := p2_pos h
    have r1 := Rat.natCast_le_natCast.2 w1
    have r2 := Rat.natCast_lt_natCast.2 w2
    simp only [Rat.natCast_mul, Rat.natCast_add] at r1 r2
    have one : ((1 : Nat) : Rat) = 1 := rfl
    rw [one] at r2
    have pp : 0 < p2 h * p2 h := Rat.mul_pos ph ph
    have s1 := Rat.mul_le_mul_of_nonneg_right r1 (Rat.le_of_lt pp)
    have s2 := Rat.mul_lt_mul_of_pos_right r2 pp
    have hr0 : 0 ≤ (r : Rat) := Rat.natCast_nonneg
    have hrh : 0 ≤ (r : Rat) * p2 h := Rat.mul_nonneg hr0 (Rat.le_of_lt ph)
    -- one unit is small
    have hunit : p2 h ≤ p2 (E - dg) := by
      have a := Rat.natCast_le_natCast.2 hbig
      rw [← p2_nat] at a
      have b := Rat.mul_le_mul_of_nonneg_right a (Rat.le_of_lt pp)
      have c : p2 (2 * dg : Nat) * (p2 h * p2 h) = p2 (dg + h) * p2 (dg + h) := by
        rw [← p2_add, ← p2_add, ← p2_add]; congr 1; omega
      rw [c] at b
      have d := sq_le (Rat.le_of_lt (p2_pos _)) (Rat.le_of_lt (p2_pos E)) (Rat.le_trans b hE)
      apply p2_le
      apply Int.not_lt.1
      intro hlt
      have e : p2 (E + 1) ≤ p2 (dg + h) := p2_le (by omega)
      have g := p2_succ E
      have k := p2_pos E
      grind
    have half : p2 h = 2 * p2 (h - 1) := by rw [← p2_succ]; congr 1; omega
    have p1 := p2_pos (h - 1)
    have hsm : ∀ M : Nat, M = 2 * r + (r * r != n).toNat → (r : Rat) * p2 h ≤ (M : Rat) * p2 (h - 1) ∧ (M : Rat) * p2 (h - 1) ≤ (r : Rat) * p2 h + p2 (h - 1) := by
      intro M hM
      have : M = 2 * r ∨ M = 2 * r + 1 := by
        cases hb : (r * r != n) <;> rw [hb] at hM <;> simp at hM <;> omega
      rw [half]
      have two : ((2 : Nat) : Rat) = 2 := rfl
      rcases this with e | e <;> rw [e] <;> simp only [Rat.natCast_add, Rat.natCast_mul, one, two] <;> constructor <;> grind
    obtain ⟨u1, u2⟩ := hsm _ rfl
    generalize (2 * r + (r * r != n).toNat : Nat) = M at *
    constructor
    · intro a ha hle
      have : a < ((r : Rat) + 1) * p2 h := by
        refine sq_lt (by grind) ?_
        have e : ((r : Rat) + 1) * p2 h * (((r : Rat) + 1) * p2 h) = ((r : Rat) + 1) * ((r : Rat) + 1) * (p2 h * p2 h) := by grind
        rw [e]; grind
      grind
    · intro b hb hle
      have : (r : Rat) * p2 h ≤ b := by
        refine sq_le hrh hb ?_
        have e : (r : Rat) * p2 h * ((r : Rat) * p2 h) = (r : Rat) * (r : Rat) * (p2 h * p2 h) := by grind
        rw [e]; grind
      grind

theorem sqrt_near {f : Format} (G : Good f) {x : Nat} (hx : Nm f x) (h0 : 0 ≤ V f x) (hz : V f x = 0 → x = 0) (E : Int) (hE : V f x ≤ p2 E * p2 E) (X : Ex f (E + 1)) :
    ∃ r, f.sqrt x = some r ∧ Nm f r ∧ 0 ≤ V f r ∧ (∀ a : Rat, 0 ≤ a → a * a ≤ V f x → a ≤ V f r + ulp f (E + 2)) ∧ (∀ b : Rat, 0 ≤ b → V f x ≤ b * b → V f r ≤ b + ulp f (E + 2)) := by
  obtain ⟨s, m, i, hx⟩ := hx
  rw [V_of hx] at *
  have hs : s = false := by
    cases s
    · rfl
    · by_cases hm : m = 0
      · subst hm
        have := hz (vn_zero _ _)
        subst this
        have e := read_word f false 0 (Nat.lt_of_lt_of_le (binade_pos f) G.rung)
        have e2 : f.word false 0 = 0 := rfl
        rw [e2] at e
        rw [e] at hx
        injection hx with h9
        exact h9.symm
      · exfalso
        have h1 : 0 < (m : Rat) * p2 i := Rat.mul_pos (Rat.natCast_pos.2 (Nat.pos_of_ne_zero hm)) (p2_pos i)
        unfold vn sr at h0
        simp only [if_true] at h0
        grind
  subst hs
  have ev : vn false m i = (m : Rat) * p2 i := by
    unfold vn sr; simp only [Bool.false_eq_true, if_false]; grind
  rw [ev] at hE hz ⊢
  obtain ⟨M, c, e, h1, h2⟩ := root_val (f.fractionBits + 2) m i E hE
  have pE := p2_pos E
  have hb := h2 (p2 E) (Rat.le_of_lt pE) hE
  have eM : vn false M c = (M : Rat) * p2 c := by
    unfold vn sr; simp only [Bool.false_eq_true, if_false]; grind
  have nM := mag_nonneg M c
  have sm : p2 (E - ((f.fractionBits + 2 : Nat) : Int)) ≤ p2 E := p2_le (by omega)
  have hE2 : Cl (vn false M c) 0 (p2 (E + 1)) := by
    rw [p2_succ, eM]
    unfold Cl
    constructor <;> grind
  obtain ⟨k1, k2, k3⟩ := write_near G hE2 X
  have z1 : ulp f (E + 2) = 2 * ulp f (E + 1) := by unfold ulp; rw [← p2_succ]; congr 1; omega
  have z2 : p2 (E - ((f.fractionBits + 2 : Nat) : Int)) ≤ ulp f (E + 1) := p2_le (by omega)
  rw [eM] at k2
  refine ⟨_, by unfold Format.sqrt; rw [hx, e]; rfl, k1, k3 (.inr rfl), ?_, ?_⟩
  · intro a ha hle
    have := h1 a ha hle
    unfold Cl at k2
    rw [z1]; grind
  · intro b hb hle
    have := h2 b hb hle
    unfold Cl at k2
    rw [z1]; grind

end Go.Proofs.Ytmlocjcfcmifdaa
