/- Plain facts: a word of a format is known by its number but for the sign of a zero; what is wrapped into a side of a grid, of numbers in eighths. No program. -/
import Derived.Test.YtmlocjcfcmifdaaFx
namespace Go.Proofs.Ytmlocjcfcmifdaa
open Ieee

/-- The word of n / 2^k. -/
def wd (f : Format) (k : Nat) (n : Int) : Nat := f.nearest (decide (n < 0)) n.natAbs (-(k : Int))

theorem stands_self (k : Nat) (n : Int) : Stands (decide (n < 0)) n.natAbs (-(k : Int)) k n := by
  refine ⟨-(k : Int), by omega, by omega, ?_⟩
  by_cases h : n < 0
  · simp only [h, decide_true]; show (-1 : Int) * _ = _; simp; omega
  · simp only [h, decide_false]; show (1 : Int) * _ = _; simp; omega

theorem wd_is (f : Format) (F : Fit f) (k : Nat) (n : Int) (hk : k + f.fractionBits ≤ 149) (hn : n.natAbs < 2 ^ (f.fractionBits + 1)) : Is f (wd f k n) k n :=
  write_is f F (stands_self k n) hk hn

theorem Is.unique {f : Format} (hf : f.binade ≤ f.infRung) {b k : Nat} {n : Int} (h : Is f b k n) (hb : b < 2 ^ f.width) (hn : n ≠ 0) : b = wd f k n := by
  obtain ⟨s, m, i, hr, hs⟩ := h
  obtain ⟨r, hr1, rfl, rfl, hw⟩ := read_number f hf hb hr
  have hsg := hs.sign hn
  have hs' : s = decide (n < 0) := by
    cases s
    · have e : sg false = 1 := rfl
      rw [e] at hsg
      simp; omega
    · have e : sg true = -1 := rfl
      rw [e] at hsg
      simp; omega
  obtain ⟨c, h1, h2, h3⟩ := hs.abs
  have hz : n.natAbs ≠ 0 := by omega
  unfold wd
  rw [hw, hs']
  exact (nearest_rung f _ _ _ r hr1 hz (SameMag.of c h2 h1 (h3 c (Int.le_refl _)).symm)).symm

theorem Is.zero {f : Format} (hf : f.binade ≤ f.infRung) {b k : Nat} (h : Is f b k 0) (hb : b < 2 ^ f.width) : b = 0 ∨ b = f.signWeight := by
  obtain ⟨s, m, i, hr, hs⟩ := h
  obtain ⟨r, hr1, rfl, rfl, hw⟩ := read_number f hf hb hr
  have hm := hs.mag_zero.2 rfl
  have hr0 : r = 0 := by
    unfold rungMag at hm
    have := binade_pos f
    split at hm <;> omega
  subst hr0
  rw [hw]
  cases s
  · exact .inl rfl
  · exact .inr (by unfold Format.word; simp)

/-- 'math.Floor' of a number. -/
def floorB (b : Nat) : Nat := double.write ((double.read b).integral .down)

end Go.Proofs.Ytmlocjcfcmifdaa
