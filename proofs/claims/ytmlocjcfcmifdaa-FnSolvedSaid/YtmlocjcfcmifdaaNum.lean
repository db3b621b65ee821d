/- Plain facts on words of a binary format: what is read is written back; a number that the format has is not rounded. No condition. -/
import GoSem.Core.Float
import Derived.Laws.FloatBits
namespace Go.Proofs.Ytmlocjcfcmifdaa
open Ieee

/-- 'm * 2 ^ i' and 'n * 2 ^ j' are one number. -/
def SameMag (m : Nat) (i : Int) (n : Nat) (j : Int) : Prop := m * 2 ^ (i - min i j).toNat = n * 2 ^ (j - min i j).toNat

theorem SameMag.le {m n : Nat} {i j : Int} (h : SameMag m i n j) (hij : i ≤ j) : m = n * 2 ^ (j - i).toNat := by
  unfold SameMag at h
  rw [Int.min_eq_left hij] at h
  simpa using h
theorem SameMag.ge {m n : Nat} {i j : Int} (h : SameMag m i n j) (hij : j ≤ i) : n = m * 2 ^ (i - j).toNat := by
  unfold SameMag at h
  rw [Int.min_eq_right hij] at h
  simpa using h.symm
theorem SameMag.refl (m : Nat) (i : Int) : SameMag m i m i := rfl

theorem log2_mul_pow (n k : Nat) (hn : n ≠ 0) : (n * 2 ^ k).log2 = n.log2 + k := by
  have h2 : n * 2 ^ k ≠ 0 := Nat.mul_ne_zero hn (by simp [Nat.pow_eq_zero])
  have a1 := Nat.log2_self_le hn
  have a2 := @Nat.lt_log2_self n
  refine (Nat.log2_eq_iff h2).2 ⟨?_, ?_⟩
  · rw [Nat.pow_add]; exact Nat.mul_le_mul_right _ a1
  · rw [show n.log2 + k + 1 = (n.log2 + 1) + k from by omega, Nat.pow_add]
    exact Nat.mul_lt_mul_of_pos_right a2 (Nat.two_pow_pos _)

theorem cut_exact (way : Toward) (s : Bool) (n k : Nat) (hn : n ≠ 0) : way.cut s (n * 2 ^ k) k = n := by
  unfold Toward.cut
  have hl : (n * 2 ^ k).log2 = n.log2 + k := log2_mul_pow n k hn
  have hm : min k ((n * 2 ^ k).log2 + 2) = k := by rw [hl]; omega
  rw [hm]
  have hg : (1 <<< k) = 2 ^ k := by rw [Nat.shiftLeft_eq, Nat.one_mul]
  have hp : 0 < 2 ^ k := Nat.two_pow_pos k
  rw [hg]
  dsimp only
  rw [Nat.mul_div_cancel _ hp, Nat.mul_mod_left]
  have h0 : ¬ (2 ^ k : Nat) < 2 * 0 := by omega
  have h1 : ((2 ^ k : Nat) == 2 * 0) = false := by rw [beq_eq_false_iff_ne]; omega
  cases way <;> simp [h1]

theorem cut_exact0 (way : Toward) (s : Bool) (n : Nat) : way.cut s n 0 = n := by
  by_cases hn : n = 0
  · subst hn; cases way <;> cases s <;> rfl
  · simpa using cut_exact way s n 0 hn

/-- The number of a rung below infinity. -/
def rungMag (f : Format) (r : Nat) : Nat := if r < f.binade then r else f.binade + r % f.binade
def rungPlace (f : Format) (r : Nat) : Int := if r < f.binade then f.leastPlace else f.leastPlace + (r / f.binade - 1 : Nat)

theorem binade_pos (f : Format) : 0 < f.binade := Nat.two_pow_pos _

theorem rung_log2 (f : Format) (r : Nat) (_h : f.binade ≤ r) : (f.binade + r % f.binade).log2 = f.fractionBits := by
  have hb := binade_pos f
  have hm : r % f.binade < f.binade := Nat.mod_lt _ hb
  have hne : f.binade + r % f.binade ≠ 0 := by omega
  refine (Nat.log2_eq_iff hne).2 ⟨?_, ?_⟩
  · show f.binade ≤ _; omega
  · rw [Nat.pow_succ]; show _ < f.binade * 2; omega

/-- A number that the format has is not rounded. -/
theorem nearest_rung (f : Format) (s : Bool) (m : Nat) (i : Int) (r : Nat) (hr : r < f.infRung) (hm : m ≠ 0)
    (h : SameMag m i (rungMag f r) (rungPlace f r)) : f.nearest s m i = f.word s r := by
  have hb := binade_pos f
  have hM : rungMag f r ≠ 0 := by
    intro h0
    rw [h0] at h
    unfold SameMag at h
    rw [Nat.zero_mul] at h
    have := Nat.mul_ne_zero hm (show (2 : Nat) ^ (i - min i (rungPlace f r)).toNat ≠ 0 by simp [Nat.pow_eq_zero])
    exact this h
  -- the place of the first digit
  have htop : i + m.log2 = rungPlace f r + (rungMag f r).log2 := by
    by_cases hij : i ≤ rungPlace f r
    · have e := h.le hij
      have := log2_mul_pow (rungMag f r) (rungPlace f r - i).toNat hM
      rw [← e] at this
      omega
    · have e := h.ge (by omega)
      have := log2_mul_pow m (i - rungPlace f r).toNat hm
      rw [← e] at this
      omega
  have hlast : max (i + m.log2 - f.fractionBits) f.leastPlace = rungPlace f r := by
    rw [htop]
    unfold rungMag rungPlace
    by_cases hs : r < f.binade
    · rw [if_pos hs, if_pos hs]
      have hr0 : r ≠ 0 := by
        unfold rungMag at hM; rw [if_pos hs] at hM; exact hM
      have : r.log2 < f.fractionBits := (Nat.log2_lt hr0).2 hs
      omega
    · rw [if_neg hs, if_neg hs, rung_log2 f r (by omega)]
      omega
  unfold Format.nearest
  rw [if_neg hm]
  simp only [hlast]
  have hcut : Toward.even.cut s (m <<< (i - rungPlace f r).toNat) (rungPlace f r - i).toNat = rungMag f r := by
    by_cases hij : i ≤ rungPlace f r
    · have e := h.le hij
      have e0 : (i - rungPlace f r).toNat = 0 := by omega
      rw [e0, Nat.shiftLeft_zero]
      conv => lhs; rw [e]
      exact cut_exact _ _ _ _ hM
    · have e := h.ge (by omega)
      have e0 : (rungPlace f r - i).toNat = 0 := by omega
      rw [e0, Nat.shiftLeft_eq, ← e]
      exact cut_exact0 _ _ _
  rw [hcut]
  have hrung : (rungPlace f r - f.leastPlace).toNat * f.binade + rungMag f r = r := by
    unfold rungMag rungPlace
    by_cases hs : r < f.binade
    · rw [if_pos hs, if_pos hs]; simp
    · rw [if_neg hs, if_neg hs]
      have e1 : (f.leastPlace + ((r / f.binade - 1 : Nat) : Int) - f.leastPlace).toNat = r / f.binade - 1 := by omega
      rw [e1]
      have h1 : 1 ≤ r / f.binade := (Nat.one_le_div_iff hb).2 (by omega)
      have h2 := Nat.div_add_mod r f.binade
      have h3 : (r / f.binade - 1) * f.binade + f.binade = f.binade * (r / f.binade) := by
        rw [Nat.mul_comm f.binade, ← Nat.succ_mul]
        congr 1; omega
      omega
  rw [hrung, Nat.min_eq_left (by omega)]

theorem signWeight_pos (f : Format) : 0 < f.signWeight := Nat.two_pow_pos _

theorem read_word (f : Format) (s : Bool) (r : Nat) (hr : r < f.infRung) : f.read (f.word s r) = .number s (rungMag f r) (rungPlace f r) := by
  have hlt := f.infRung_lt
  have hp := signWeight_pos f
  have e1 : f.word s r % f.signWeight = r := by
    unfold Format.word
    cases s
    · simp [Nat.mod_eq_of_lt (show r < f.signWeight by omega)]
    · simp [Nat.mod_eq_of_lt (show r < f.signWeight by omega)]
  have e2 : (f.word s r / f.signWeight % 2 == 1) = s := by
    unfold Format.word
    cases s
    · simp [Nat.div_eq_of_lt (show r < f.signWeight by omega)]
    · have : (f.signWeight + r) / f.signWeight = 1 := by
        rw [Nat.add_div_left _ hp, Nat.div_eq_of_lt (show r < f.signWeight by omega)]
      simp [this]
  unfold Format.read
  simp only [e1, e2]
  unfold rungMag rungPlace
  by_cases hs : r < f.binade
  · simp [hs]
  · simp [hs, hr]

theorem binade_le_single : single.binade ≤ single.infRung := by decide
theorem binade_le_double : double.binade ≤ double.infRung := by decide

theorem width_eq (f : Format) : 2 ^ f.width = 2 * f.signWeight := by
  unfold Format.width Format.signWeight
  rw [Nat.add_assoc, Nat.add_comm 1, Nat.pow_succ, Nat.mul_comm]

/-- A word is its sign and its rung. -/
theorem word_eq (f : Format) {b : Nat} (hb : b < 2 ^ f.width) : b = f.word (b / f.signWeight % 2 == 1) (b % f.signWeight) := by
  have hp := signWeight_pos f
  have hq : b / f.signWeight < 2 := by
    rw [Nat.div_lt_iff_lt_mul hp, ← width_eq]; exact hb
  have hd := Nat.div_add_mod b f.signWeight
  generalize b / f.signWeight = q at *
  unfold Format.word
  have h01 : q = 0 ∨ q = 1 := by omega
  rcases h01 with rfl | rfl
  · simp at hd; simp [hd]
  · simp at hd; simp [hd]

/-- Every number of the format is a rung's. -/
theorem read_number (f : Format) (hf : f.binade ≤ f.infRung) {b : Nat} (hb : b < 2 ^ f.width) {s : Bool} {m : Nat} {i : Int} (h : f.read b = .number s m i) :
    ∃ r, r < f.infRung ∧ m = rungMag f r ∧ i = rungPlace f r ∧ b = f.word s r := by
  have hword := word_eq f hb
  unfold Format.read at h
  simp only at h
  by_cases h1 : b % f.signWeight < f.binade
  · rw [if_pos h1] at h
    injection h with e1 e2 e3
    refine ⟨b % f.signWeight, by omega, ?_, ?_, by rw [← e1]; exact hword⟩
    · unfold rungMag; rw [if_pos h1, e2]
    · unfold rungPlace; rw [if_pos h1, e3]
  · rw [if_neg h1] at h
    by_cases h2 : b % f.signWeight < f.infRung
    · rw [if_pos h2] at h
      injection h with e1 e2 e3
      refine ⟨b % f.signWeight, h2, ?_, ?_, by rw [← e1]; exact hword⟩
      · unfold rungMag; rw [if_neg h1, e2]
      · unfold rungPlace; rw [if_neg h1, e3]
    · rw [if_neg h2] at h
      split at h <;> cases h

/-- What is read is written back. -/
theorem write_read (f : Format) (hf : f.binade ≤ f.infRung) {b : Nat} (hb : b < 2 ^ f.width) {s : Bool} {m : Nat} {i : Int} (h : f.read b = .number s m i) : f.write (.number s m i) = b := by
  obtain ⟨r, hr, rfl, rfl, rfl⟩ := read_number f hf hb h
  show f.nearest _ _ _ = _
  by_cases hz : rungMag f r = 0
  · have hr0 : r = 0 := by
      unfold rungMag at hz
      have := binade_pos f
      split at hz <;> omega
    subst hr0
    rw [hz]
    rfl
  · exact nearest_rung f s _ _ r hr hz (SameMag.refl _ _)

theorem double_normal (M : Nat) (E : Int) (h1 : 4503599627370496 ≤ M) (h2 : M < 9007199254740992) (h3 : -1074 ≤ E) (h4 : E ≤ 971) :
    ∃ r, r < double.infRung ∧ rungMag double r = M ∧ rungPlace double r = E := by
  have hbd : double.binade = 4503599627370496 := by decide
  have hld : double.leastPlace = -1074 := by decide
  have hid : double.infRung = 9218868437227405312 := by decide
  obtain ⟨e, rfl⟩ : ∃ e : Nat, E = (e : Int) - 1074 := ⟨(E + 1074).toNat, by omega⟩
  have he : e ≤ 2045 := by omega
  clear h3 h4
  obtain ⟨q, rfl⟩ : ∃ q : Nat, M = 4503599627370496 + q := ⟨M - 4503599627370496, by omega⟩
  have hq : q < 4503599627370496 := by omega
  clear h1 h2
  have hdiv : ((e + 1) * 4503599627370496 + q) / 4503599627370496 = e + 1 := by omega
  have hmod : ((e + 1) * 4503599627370496 + q) % 4503599627370496 = q := by omega
  have hge : ¬ ((e + 1) * 4503599627370496 + q < 4503599627370496) := by omega
  refine ⟨(e + 1) * 4503599627370496 + q, ?_, ?_, ?_⟩
  · rw [hid]; omega
  · unfold rungMag
    rw [hbd, if_neg hge, hmod]
  · unfold rungPlace
    rw [hbd, hld, if_neg hge, hdiv]
    omega

theorem norm52 (m : Nat) (hz : m ≠ 0) (hlog : m.log2 < 24) : 4503599627370496 ≤ m * 2 ^ (52 - m.log2) ∧ m * 2 ^ (52 - m.log2) < 9007199254740992 := by
  have a1 := Nat.log2_self_le hz
  have a2 := @Nat.lt_log2_self m
  constructor
  · calc (4503599627370496 : Nat) = 2 ^ 52 := by decide
      _ = 2 ^ m.log2 * 2 ^ (52 - m.log2) := by rw [← Nat.pow_add]; congr 1; omega
      _ ≤ _ := Nat.mul_le_mul_right _ a1
  · calc m * 2 ^ (52 - m.log2) < 2 ^ (m.log2 + 1) * 2 ^ (52 - m.log2) := Nat.mul_lt_mul_of_pos_right a2 (Nat.two_pow_pos _)
      _ = 2 ^ 53 := by rw [← Nat.pow_add]; congr 1; omega
      _ = 9007199254740992 := by decide

/-- The bounds of a single's number. -/
theorem single_bounds {q : Nat} (hq : q < single.infRung) : rungMag single q < 16777216 ∧ -149 ≤ rungPlace single q ∧ rungPlace single q ≤ 104 := by
  have hbi : single.binade = 8388608 := by decide
  have hl : single.leastPlace = -149 := by decide
  have hin : single.infRung = 2139095040 := by decide
  rw [hin] at hq
  unfold rungMag rungPlace
  rw [hbi, hl]
  by_cases h : q < 8388608
  · rw [if_pos h, if_pos h]; omega
  · rw [if_neg h, if_neg h]
    have := Nat.mod_lt q (show 0 < 8388608 by decide)
    have h2 : q / 8388608 ≤ 254 := by omega
    have h1 : 1 ≤ q / 8388608 := by omega
    generalize q / 8388608 = d at *
    generalize q % 8388608 = r at *
    omega

/-- A number that is read is a rung's. -/
theorem read_rung (f : Format) (hf : f.binade ≤ f.infRung) {b : Nat} {s : Bool} {m : Nat} {i : Int} (h : f.read b = .number s m i) :
    ∃ r, r < f.infRung ∧ m = rungMag f r ∧ i = rungPlace f r := by
  unfold Format.read at h
  simp only at h
  by_cases h1 : b % f.signWeight < f.binade
  · rw [if_pos h1] at h
    injection h with e1 e2 e3
    refine ⟨b % f.signWeight, by omega, ?_, ?_⟩
    · unfold rungMag; rw [if_pos h1, e2]
    · unfold rungPlace; rw [if_pos h1, e3]
  · rw [if_neg h1] at h
    by_cases h2 : b % f.signWeight < f.infRung
    · rw [if_pos h2] at h
      injection h with e1 e2 e3
      refine ⟨b % f.signWeight, h2, ?_, ?_⟩
      · unfold rungMag; rw [if_neg h1, e2]
      · unfold rungPlace; rw [if_neg h1, e3]
    · rw [if_neg h2] at h
      split at h <;> cases h

/-- A word of 32 bits as one of 64: the same number. -/
theorem single_double {b : Nat} {s : Bool} {m : Nat} {i : Int} (h : single.read b = .number s m i) :
    ∃ r, r < double.infRung ∧ double.nearest s m i = double.word s r ∧ SameMag m i (rungMag double r) (rungPlace double r) := by
  obtain ⟨q, hq, rfl, rfl⟩ := read_rung single binade_le_single h
  obtain ⟨hm, hi1, hi2⟩ := single_bounds hq
  generalize rungMag single q = m at *
  generalize rungPlace single q = i at *
  by_cases hz : m = 0
  · refine ⟨0, by decide, ?_, ?_⟩
    · rw [hz]; rfl
    · unfold SameMag
      rw [hz, show rungMag double 0 = 0 from rfl, Nat.zero_mul, Nat.zero_mul]
  · have hlog : m.log2 < 24 := (Nat.log2_lt hz).2 hm
    obtain ⟨hp1, hp2⟩ := norm52 m hz hlog
    obtain ⟨r, hr, e1, e2⟩ := double_normal (m * 2 ^ (52 - m.log2)) (i - (52 - m.log2 : Nat)) hp1 hp2 (by omega) (by omega)
    have hsame : SameMag m i (rungMag double r) (rungPlace double r) := by
      rw [e1, e2]
      unfold SameMag
      rw [Int.min_eq_right (by omega), show (i - (52 - m.log2 : Nat) - (i - (52 - m.log2 : Nat))).toNat = 0 from by omega, show (i - (i - (52 - m.log2 : Nat))).toNat = 52 - m.log2 from by omega]
      simp
    exact ⟨r, hr, nearest_rung double s m i r hr hz hsame, hsame⟩
end Go.Proofs.Ytmlocjcfcmifdaa
