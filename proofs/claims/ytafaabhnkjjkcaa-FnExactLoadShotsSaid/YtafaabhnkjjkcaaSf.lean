/- Plain facts: the bytes of the cloud that a text holds at a place are those of the text. Contract: a cloud's bytes and its check number, by the reference. -/
import Derived.Test.YtafaabhnkjjkcaaSe
namespace Go.Proofs.Ytafaabhnkjjkcaa
open Go.RowKit Go.Sort

theorem seg (s : ByteArray) (a b c : Nat) (h1 : a ≤ b) (h2 : b ≤ c) : s.extract a b ++ s.extract b c = s.extract a c := by
  apply ByteArray.ext
  rw [ByteArray.data_append, ByteArray.data_extract, ByteArray.data_extract, ByteArray.data_extract, Array.extract_append_extract, Nat.min_eq_left h1, Nat.max_eq_right h2]
theorem bytes_eq {x y : ByteArray} (h : x.data.toList = y.data.toList) : x = y := by
  apply ByteArray.ext
  exact Array.toList_inj.1 h
theorem ofNat_eq (n : Nat) (b : UInt8) (h : n = b.toNat) : UInt8.ofNat n = b := by subst h; exact UInt8.ofNat_toNat
theorem four_le (a b c d : UInt8) : four (Lib.leNat [a, b, c, d]) = [a, b, c, d] := by
  have ha := a.toNat_lt
  have hb := b.toNat_lt
  have hc := c.toNat_lt
  have hd := d.toNat_lt
  unfold four
  simp only [Lib.leNat]
  rw [ofNat_eq _ a (by omega), ofNat_eq _ b (by omega), ofNat_eq _ c (by omega), ofNat_eq _ d (by omega)]
theorem four_numAt (s : ByteArray) (q : Nat) (h : q + 4 ≤ s.size) : fourB (numAt s q) = s.extract q (q + 4) := by
  apply bytes_eq
  rw [four_list s q h]
  exact four_le _ _ _ _
theorem pd_at (s : ByteArray) (q : Nat) (h : q + 24 ≤ s.size) : pdB (pdAt s q) = s.extract q (q + 24) := by
  unfold pdB pdAt
  rw [four_numAt s q (by omega), four_numAt s (q + 4) (by omega), four_numAt s (q + 8) (by omega), four_numAt s (q + 12) (by omega), four_numAt s (q + 16) (by omega), four_numAt s (q + 20) (by omega)]
  rw [seg s _ _ _ (by omega) (by omega), seg s _ _ _ (by omega) (by omega), seg s _ _ _ (by omega) (by omega), seg s _ _ _ (by omega) (by omega), seg s _ _ _ (by omega) (by omega)]
theorem list_extract (s : ByteArray) (a n : Nat) (h : a + n ≤ s.size) : (s.extract a (a + n)).data.toList = (List.range n).map fun i => s.data.getD (a + i) 0 := by
  have hsz := extract_size s a (a + n) h
  apply List.ext_getElem
  · rw [Array.length_toList]
    show (s.extract a (a + n)).size = _
    rw [hsz]; simp
  · intro j h1 h2
    have hj : j < n := by simpa using h2
    have e : (s.extract a (a + n)).data.toList[j] = (s.extract a (a + n)).data.getD j 0 := by
      unfold Array.getD
      rw [Array.length_toList] at h1
      rw [dif_pos h1]; rfl
    rw [e, getD_extract s a (a + n) j h (by omega)]
    simp
theorem byteAt_of (s : ByteArray) (a : Nat) : UInt8.ofNat (byteAt s a) = s.data.getD a 0 := UInt8.ofNat_toNat
theorem one_at (s : ByteArray) (a : Nat) (h : a + 1 ≤ s.size) : oneB (byteAt s a) = s.extract a (a + 1) := by
  apply bytes_eq
  rw [list_extract s a 1 h]
  show [UInt8.ofNat (byteAt s a)] = _
  rw [byteAt_of]; rfl
theorem side_at (s : ByteArray) (a : Nat) (h : a + 2 ≤ s.size) : sideB (byteAt s a) (byteAt s (a + 1)) = s.extract a (a + 2) := by
  apply bytes_eq
  rw [list_extract s a 2 h]
  show [UInt8.ofNat (byteAt s a), UInt8.ofNat (byteAt s (a + 1))] = _
  rw [byteAt_of, byteAt_of]; rfl
theorem mark_at (s : ByteArray) (a : Nat) (h : a + 4 ≤ s.size) (hm : markAt s a = true) : (⟨#[67, 76, 68, 49]⟩ : ByteArray) = s.extract a (a + 4) := by
  apply bytes_eq
  rw [four_list s a h]
  unfold markAt at hm
  simp only [Bool.and_eq_true, beq_iff_eq] at hm
  obtain ⟨⟨⟨m0, m1⟩, m2⟩, m3⟩ := hm
  have e : ∀ i n, byteAt s i = n → s.data.getD i 0 = UInt8.ofNat n := fun i n h => by rw [← h, byteAt_of]
  rw [e _ _ m0, e _ _ m1, e _ _ m2, e _ _ m3]
  rfl
theorem head_at (s : ByteArray) (p : Nat) (h : p + 14 ≤ s.size) (hm : markAt s p = true) : headB (byteAt s (p + 4)) (byteAt s (p + 5)) (numAt s (p + 6)) (numAt s (p + 10)) = s.extract p (p + 14) := by
  unfold headB
  rw [mark_at s p (by omega) hm, side_at s (p + 4) (by omega), four_numAt s (p + 6) (by omega), four_numAt s (p + 10) (by omega)]
  rw [seg s _ _ _ (by omega) (by omega), seg s _ _ _ (by omega) (by omega), seg s _ _ _ (by omega) (by omega)]
theorem body_at (s : ByteArray) (p n : Nat) (h : p + 15 + 24 * n ≤ s.size) : bodyB (s.extract p (p + 15)) (psAt s p n) = s.extract p (p + 15 + 24 * n) := by
  induction n with
  | zero => rfl
  | succ n ih =>
    rw [psAt_succ, bodyB_snoc, ih (by omega), pd_at s _ (by omega), seg s _ _ _ (by omega) (by omega)]
    rfl
/-- The bytes of the cloud at a place. -/
theorem cloud_at (s : ByteArray) (p : Nat) (hg : goodAt s p = true) : bodyB (headB (byteAt s (p + 4)) (byteAt s (p + 5)) (numAt s (p + 6)) (numAt s (p + 10)) ++ oneB (psAt s p (nAt s p)).length) (psAt s p (nAt s p)) = s.extract p (endAt s p) ∧ endAt s p ≤ s.size := by
  unfold goodAt at hg
  simp only [Bool.and_eq_true, decide_eq_true_eq] at hg
  obtain ⟨⟨⟨⟨h1, hm⟩, h2⟩, h3⟩, h4⟩ := hg
  unfold endAt
  refine ⟨?_, h2⟩
  rw [head_at s p (by omega) hm, psAt_length]
  have e1 : oneB (nAt s p) = s.extract (p + 14) (p + 15) := one_at s (p + 14) (by omega)
  rw [e1, seg s _ _ _ (by omega) (by omega), body_at s p _ h2]
end Go.Proofs.Ytafaabhnkjjkcaa
