/- The clouds at the beginning of a text, one behind the other, as a plain function; bytes of numbers; check bytes. -/
import Derived.Test.YtafaabhnkjjkcaaLc
namespace Go.Proofs.Ytafaabhnkjjkcaa
open Go.RowKit Go.Sort

/-- The check number of bytes behind another one. -/
def ck (n : Int) (l : List UInt8) : Int := l.foldl (fun n b => (719 * n + b.toNat + 53) % 65003) n
theorem ck_snoc (n : Int) (l : List UInt8) (b : UInt8) : ck n (l ++ [b]) = (719 * ck n l + b.toNat + 53) % 65003 := by
  unfold ck; rw [List.foldl_append]; rfl
theorem ck_bound (n : Int) (l : List UInt8) (h0 : 0 ≤ n) (h1 : n ≤ 65002) : 0 ≤ ck n l ∧ ck n l ≤ 65002 := by
  induction l generalizing n with
  | nil => exact ⟨h0, h1⟩
  | cons b l ih =>
    have e : ck n (b :: l) = ck ((719 * n + b.toNat + 53) % 65003) l := rfl
    rw [e]
    exact ih _ (by omega) (by omega)
theorem take_snoc (s : ByteArray) (k : Nat) (h : k < s.size) : s.data.toList.take (k + 1) = s.data.toList.take k ++ [s[k]] := by
  rw [List.take_succ_eq_append_getElem (by simpa using h)]; rfl

/-- A cloud's numbers. -/
structure CD where
  wd : Nat
  hg : Nat
  ps : List PD
  mg : Nat
  bk : Nat

/-- The cloud at a place, the place behind it, and its check number. -/
def cdAt (s : ByteArray) (p : Nat) : CD := ⟨byteAt s (p + 4), byteAt s (p + 5), psAt s p (nAt s p), numAt s (p + 6), numAt s (p + 10)⟩
def endAt (s : ByteArray) (p : Nat) : Nat := p + 15 + 24 * nAt s p
def ckAt (s : ByteArray) (e : Nat) : Nat := (ck 0 (s.data.toList.take e)).toNat
def ckOk (s : ByteArray) (e : Nat) : Bool := decide (e + 2 ≤ s.size) && (byteAt s e == ckAt s e % 256 && byteAt s (e + 1) == ckAt s e / 256)
/-- Is there one more cloud, with its check number? -/
def more (s : ByteArray) (p : Nat) : Bool := goodAt s p && ckOk s (endAt s p)
/-- The clouds from a place on, at most so many, and the place behind them. -/
def recS (s : ByteArray) : Nat → Nat → List CD × Nat
  | 0, p => ([], p)
  | f + 1, p => if more s p then ((cdAt s p) :: (recS s f (endAt s p + 2)).1, (recS s f (endAt s p + 2)).2) else ([], p)

theorem recS_yes (s : ByteArray) (f p : Nat) (h : more s p = true) : recS s (f + 1) p = ((cdAt s p) :: (recS s f (endAt s p + 2)).1, (recS s f (endAt s p + 2)).2) := by
  rw [recS, if_pos h]
theorem recS_no (s : ByteArray) (f p : Nat) (h : more s p = false) : recS s f p = ([], p) := by
  cases f with
  | zero => rfl
  | succ f => rw [recS, h]; rfl

theorem ckAt_bound (s : ByteArray) (e : Nat) : ckAt s e ≤ 65002 ∧ ((ckAt s e : Nat) : Int) = ck 0 (s.data.toList.take e) := by
  have := ck_bound 0 (s.data.toList.take e) (by omega) (by omega)
  unfold ckAt
  omega
theorem more_end (s : ByteArray) (p : Nat) (h : more s p = true) : endAt s p + 2 ≤ s.size ∧ p + 15 ≤ endAt s p := by
  unfold more ckOk at h
  simp only [Bool.and_eq_true, decide_eq_true_eq] at h
  exact ⟨h.2.1, by unfold endAt; omega⟩

/-- A text from a place on. -/
theorem byteAt_tail (s : ByteArray) (p j : Nat) (h : p + j < s.size) : byteAt (s.extract p s.size) j = byteAt s (p + j) := by
  unfold byteAt
  rw [getD_extract s p s.size j (Nat.le_refl _) h]
theorem numAt_tail (s : ByteArray) (p j : Nat) (h : p + j + 4 ≤ s.size) : numAt (s.extract p s.size) j = numAt s (p + j) := numAt_extract s p s.size j (Nat.le_refl _) h
theorem pdAt_tail (s : ByteArray) (p j : Nat) (h : p + j + 24 ≤ s.size) : pdAt (s.extract p s.size) j = pdAt s (p + j) := by
  unfold pdAt
  rw [numAt_tail s p j (by omega), numAt_tail s p (j + 4) (by omega), numAt_tail s p (j + 8) (by omega), numAt_tail s p (j + 12) (by omega), numAt_tail s p (j + 16) (by omega), numAt_tail s p (j + 20) (by omega)]
  rfl
theorem psAt_tail (s : ByteArray) (p n : Nat) (h : p + 15 + 24 * n ≤ s.size) : psAt (s.extract p s.size) 0 n = psAt s p n := by
  unfold psAt
  apply List.map_congr_left
  intro i hi
  have hi' := List.mem_range.1 hi
  rw [show 0 + 15 + 24 * i = 15 + 24 * i from by omega, pdAt_tail s p (15 + 24 * i) (by omega), show p + (15 + 24 * i) = p + 15 + 24 * i from by omega]
theorem nAt_tail (s : ByteArray) (p : Nat) (h : p + 15 ≤ s.size) : nAt (s.extract p s.size) 0 = nAt s p := by
  unfold nAt
  rw [byteAt_tail s p (0 + 14) (by omega)]

theorem goodAt_tail (s : ByteArray) (p : Nat) (hp : p ≤ s.size) : goodAt (s.extract p s.size) 0 = goodAt s p := by
  have hsz := extract_size s p s.size (Nat.le_refl _)
  by_cases h1 : p + 15 ≤ s.size
  · have hn := nAt_tail s p h1
    have hm : markAt (s.extract p s.size) 0 = markAt s p := by
      unfold markAt
      rw [byteAt_tail s p 0 (by omega), byteAt_tail s p (0 + 1) (by omega), byteAt_tail s p (0 + 2) (by omega), byteAt_tail s p (0 + 3) (by omega)]
      rfl
    unfold goodAt
    rw [hn, hm, hsz]
    rw [show decide (0 + 15 ≤ s.size - p) = decide (p + 15 ≤ s.size) by rw [decide_eq_decide]; omega,
      show decide (0 + 15 + 24 * nAt s p ≤ s.size - p) = decide (p + 15 + 24 * nAt s p ≤ s.size) by rw [decide_eq_decide]; omega]
    by_cases h2 : p + 15 + 24 * nAt s p ≤ s.size
    · rw [psAt_tail s p _ h2, byteAt_tail s p (0 + 4) (by omega), byteAt_tail s p (0 + 5) (by omega), numAt_tail s p (0 + 6) (by omega), numAt_tail s p (0 + 10) (by omega)]
    · rw [show decide (p + 15 + 24 * nAt s p ≤ s.size) = false by simpa using h2]
      simp
  · unfold goodAt
    rw [hsz, show decide (0 + 15 ≤ s.size - p) = false by simp; omega, show decide (p + 15 ≤ s.size) = false by simp; omega]
    simp
end Go.Proofs.Ytafaabhnkjjkcaa
