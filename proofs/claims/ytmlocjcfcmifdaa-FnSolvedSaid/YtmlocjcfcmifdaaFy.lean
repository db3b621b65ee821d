/- Plain facts: sums, differences and products of words that stand for n / 2^k, to the word; no program. -/
import Derived.Test.YtmlocjcfcmifdaaFw
namespace Go.Proofs.Ytmlocjcfcmifdaa
open Ieee

theorem inf_lt (f : Format) : f.infRung < f.signWeight := by
  unfold Format.infRung Format.signWeight Format.binade
  have h1 := Nat.two_pow_pos f.exponentBits
  rw [Nat.pow_add]
  exact Nat.mul_lt_mul_of_pos_right (by omega) (Nat.two_pow_pos _)
theorem word_lt (f : Format) (s : Bool) (r : Nat) (h : r ≤ f.infRung) : f.word s r < 2 ^ f.width := by
  have h2 := inf_lt f
  rw [width_eq]
  unfold Format.word
  split <;> omega
theorem nearest_lt (f : Format) (s : Bool) (m : Nat) (p : Int) : f.nearest s m p < 2 ^ f.width := by
  unfold Format.nearest
  split
  · exact word_lt f s 0 (Nat.zero_le _)
  · exact word_lt f s _ (Nat.min_le_right _ _)
theorem wd_lt (f : Format) (k : Nat) (n : Int) : wd f k n < 2 ^ f.width := nearest_lt _ _ _ _
theorem wd_zero (f : Format) (k : Nat) : wd f k 0 = 0 := by
  unfold wd Format.nearest; rfl
theorem nearest_zero (f : Format) (p : Int) : f.nearest false 0 p = 0 := by unfold Format.nearest; rfl

section
variable {f : Format} (F : Fit f) (hf : f.binade ≤ f.infRung)
include F hf

theorem wd_read {k : Nat} {a : Int} (hk : k + f.fractionBits ≤ 149) (ha : a.natAbs < 2 ^ (f.fractionBits + 1)) : ∃ m i, f.read (wd f k a) = .number (decide (a < 0)) m i ∧ Stands (decide (a < 0)) m i k a := by
  by_cases h0 : a = 0
  · subst h0
    rw [wd_zero]
    have h := read_word f false 0 (Nat.lt_of_lt_of_le (binade_pos f) hf)
    have e : f.word false 0 = 0 := rfl
    rw [e] at h
    refine ⟨_, _, h, ?_⟩
    have hm : rungMag f 0 = 0 := by unfold rungMag; rw [if_pos (binade_pos f)]
    rw [hm]
    exact Stands.zero
  · obtain ⟨s, m, i, hr, hs⟩ := wd_is f F k a hk ha
    have hsg := hs.sign h0
    have hs' : s = decide (a < 0) := by
      cases s
      · have e : sg false = 1 := rfl
        rw [e] at hsg
        simp; omega
      · have e : sg true = -1 := rfl
        rw [e] at hsg
        simp; omega
    subst hs'
    exact ⟨m, i, hr, hs⟩

theorem sum_word {s t : Bool} {m n : Nat} {i j : Int} {k : Nat} {a b : Int} (h : Stands s m i k a) (g : Stands t n j k b) (hz : a + b = 0 → (s && t) = false) (hk : k + f.fractionBits ≤ 149) (hn : (a + b).natAbs < 2 ^ (f.fractionBits + 1)) :
    (Datum.sum (.number s m i) (.number t n j)).map f.write = some (wd f k (a + b)) := by
  obtain ⟨q, mm, e, hq⟩ := h.sum g
  by_cases h0 : a + b = 0
  · have hm := hq.mag_zero.2 h0
    have e2 : Datum.sum (.number s m i) (.number t n j) = some (.number (if signed s m (i - min i j).toNat + signed t n (j - min i j).toNat = 0 then s && t else decide (signed s m (i - min i j).toNat + signed t n (j - min i j).toNat < 0)) (signed s m (i - min i j).toNat + signed t n (j - min i j).toNat).natAbs (min i j)) := rfl
    rw [e] at e2
    injection e2 with e2
    injection e2 with e3 e4 _
    have ht : signed s m (i - min i j).toNat + signed t n (j - min i j).toNat = 0 := by rw [hm] at e4; omega
    rw [if_pos ht, hz h0] at e3
    rw [e, e3, hm, h0, wd_zero]
    show some (f.nearest false 0 _) = some 0
    rw [nearest_zero]
  · rw [e]
    show some (f.write (.number q mm (min i j))) = _
    show some (f.nearest q mm (min i j)) = _
    rw [Is.unique hf (write_is f F hq hk hn) (nearest_lt _ _ _ _) h0]

theorem add_wd {k : Nat} {a b : Int} (hk : k + f.fractionBits ≤ 149) (ha : a.natAbs < 2 ^ (f.fractionBits + 1)) (hb : b.natAbs < 2 ^ (f.fractionBits + 1)) (hn : (a + b).natAbs < 2 ^ (f.fractionBits + 1)) : f.add (wd f k a) (wd f k b) = some (wd f k (a + b)) := by
  obtain ⟨m, i, hr, hs⟩ := wd_read F hf hk ha
  obtain ⟨n, j, hr', hs'⟩ := wd_read F hf hk hb
  unfold Format.add
  rw [hr, hr']
  refine sum_word F hf hs hs' (fun h => ?_) hk hn
  by_cases h1 : a < 0
  · have h2 : ¬ b < 0 := by omega
    simp [h2]
  · simp [h1]

theorem sub_wd {k : Nat} {a b : Int} (hk : k + f.fractionBits ≤ 149) (ha : a.natAbs < 2 ^ (f.fractionBits + 1)) (hb : b.natAbs < 2 ^ (f.fractionBits + 1)) (hn : (a - b).natAbs < 2 ^ (f.fractionBits + 1)) : f.sub (wd f k a) (wd f k b) = some (wd f k (a - b)) := by
  obtain ⟨m, i, hr, hs⟩ := wd_read F hf hk ha
  obtain ⟨n, j, hr', hs'⟩ := wd_read F hf hk hb
  unfold Format.sub
  rw [hr, hr']
  show (Datum.sum _ (Datum.number (!(decide (b < 0))) n j)).map f.write = _
  rw [Int.sub_eq_add_neg] at hn ⊢
  refine sum_word F hf hs hs'.opp (fun h => ?_) hk hn
  by_cases h1 : a < 0
  · have h2 : b < 0 := by omega
    simp [h2]
  · simp [h1]

/-- A sum with a word of a product: a zero of it may have either sign. -/
theorem add_is {k : Nat} {a b : Int} {y : Nat} (hy : Is f y k b) (hyl : y < 2 ^ f.width) (hk : k + f.fractionBits ≤ 149) (ha : a.natAbs < 2 ^ (f.fractionBits + 1)) (hb : b.natAbs < 2 ^ (f.fractionBits + 1)) (hn : (a + b).natAbs < 2 ^ (f.fractionBits + 1)) : f.add (wd f k a) y = some (wd f k (a + b)) := by
  by_cases h0 : b = 0
  · subst h0
    obtain ⟨m, i, hr, hs⟩ := wd_read F hf hk ha
    obtain ⟨t, n, j, hr', hs'⟩ := hy
    unfold Format.add
    rw [hr, hr']
    refine sum_word F hf hs hs' (fun h => ?_) hk hn
    have : ¬ a < 0 := by omega
    simp [this]
  · rw [hy.unique hf hyl h0]
    exact add_wd F hf hk ha hb hn

theorem mul_wd {k l : Nat} {a b : Int} (ha0 : 0 ≤ a) (hb0 : 0 ≤ b) (hk : k + f.fractionBits ≤ 149) (hl : l + f.fractionBits ≤ 149) (hkl : k + l + f.fractionBits ≤ 149) (ha : a.natAbs < 2 ^ (f.fractionBits + 1)) (hb : b.natAbs < 2 ^ (f.fractionBits + 1)) (hn : (a * b).natAbs < 2 ^ (f.fractionBits + 1)) : f.mul (wd f k a) (wd f l b) = some (wd f (k + l) (a * b)) := by
  obtain ⟨r, e, hr⟩ := Is.mul F (wd_is f F k a hk ha) (wd_is f F l b hl hb) hkl hn
  obtain ⟨m, i, h1, hs⟩ := wd_read F hf hk ha
  obtain ⟨n, j, h2, ht⟩ := wd_read F hf hl hb
  have e2 : f.mul (wd f k a) (wd f l b) = some (f.write (.number (decide (a < 0) ^^ decide (b < 0)) (m * n) (i + j))) := by
    unfold Format.mul; rw [h1, h2]; rfl
  have d1 : decide (a < 0) = false := by simp; omega
  have d2 : decide (b < 0) = false := by simp; omega
  rw [d1, d2] at e2
  by_cases h0 : a * b = 0
  · have hz : m * n = 0 := by
      rcases Int.mul_eq_zero.1 h0 with h | h
      · rw [hs.mag_zero.2 h, Nat.zero_mul]
      · rw [ht.mag_zero.2 h, Nat.mul_zero]
    rw [e2, hz, h0, wd_zero]
    show some (f.nearest false 0 _) = some 0
    rw [nearest_zero]
  · have e3 : r = f.write (.number (false ^^ false) (m * n) (i + j)) := by rw [e] at e2; injection e2
    rw [e]
    rw [hr.unique hf (by rw [e3]; exact nearest_lt _ _ _ _) h0]

theorem mul_is {k l : Nat} {a b : Int} (hk : k + f.fractionBits ≤ 149) (hl : l + f.fractionBits ≤ 149) (hkl : k + l + f.fractionBits ≤ 149) (ha : a.natAbs < 2 ^ (f.fractionBits + 1)) (hb : b.natAbs < 2 ^ (f.fractionBits + 1)) (hn : (a * b).natAbs < 2 ^ (f.fractionBits + 1)) : ∃ r, f.mul (wd f k a) (wd f l b) = some r ∧ Is f r (k + l) (a * b) ∧ r < 2 ^ f.width := by
  obtain ⟨r, e, hr⟩ := Is.mul F (wd_is f F k a hk ha) (wd_is f F l b hl hb) hkl hn
  obtain ⟨m, i, h1, hs⟩ := wd_read F hf hk ha
  obtain ⟨n, j, h2, ht⟩ := wd_read F hf hl hb
  have e2 : f.mul (wd f k a) (wd f l b) = some (f.write (.number (decide (a < 0) ^^ decide (b < 0)) (m * n) (i + j))) := by
    unfold Format.mul; rw [h1, h2]; rfl
  refine ⟨r, e, hr, ?_⟩
  rw [e] at e2
  injection e2 with e2
  rw [e2]
  exact nearest_lt _ _ _ _

omit hf in
theorem order_wd {k : Nat} {a b : Int} (hk : k + f.fractionBits ≤ 149) (ha : a.natAbs < 2 ^ (f.fractionBits + 1)) (hb : b.natAbs < 2 ^ (f.fractionBits + 1)) : f.order (wd f k a) (wd f k b) = some (compare a b) :=
  (wd_is f F k a hk ha).order (wd_is f F k b hk hb)
/-- The same number in finer parts. -/
theorem wd_up {k : Nat} {a : Int} (j : Nat) (hk : k + f.fractionBits ≤ 149) (ha : a.natAbs < 2 ^ (f.fractionBits + 1)) : wd f (k + j) (a * ((2 ^ j : Nat) : Int)) = wd f k a := by
  by_cases h0 : a = 0
  · subst h0; rw [Int.zero_mul, wd_zero, wd_zero]
  · have h := (wd_is f F k a hk ha).up j
    exact (h.unique hf (wd_lt _ _ _) (by
      intro e
      rcases Int.mul_eq_zero.1 e with h | h
      · exact h0 h
      · exact two_pow_ne j h)).symm
end
theorem read_wd (k : Nat) (a : Int) (hk : k ≤ 126) (ha : a.natAbs < 16777216) : ∃ s m i, single.read (wd single k a) = .number s m i := by
  obtain ⟨s, m, i, h, _⟩ := wd_is single fit_single k a (by show k + 23 ≤ 149; omega) ha
  exact ⟨s, m, i, h⟩
end Go.Proofs.Ytmlocjcfcmifdaa
