/- Plain facts on numbers in decimal: what a text's digits spell; a numeral read back. No program. -/
import Derived.Test.YtdkjaffnkgbcnaaGreatDoorUl
import Derived.Lib.ParseIntBCases
import Derived.Lib.ItoaMem
namespace Go.Proofs.YtdkjaffnkgbcnaaGreatDoor
open Go.RowKit Go.Sort

/-- The number that a text's digits spell; other bytes are left out. -/
def dsum (n : Nat) : List UInt8 → Nat
  | [] => n
  | c :: r => dsum (if 48 ≤ c.toNat ∧ c.toNat ≤ 57 then 10 * n + (c.toNat - 48) else n) r
theorem dsum_cons (n : Nat) (c : UInt8) (r : List UInt8) : dsum n (c :: r) = dsum (if 48 ≤ c.toNat ∧ c.toNat ≤ 57 then 10 * n + (c.toNat - 48) else n) r := rfl
theorem dsum_app (a b : List UInt8) (n : Nat) : dsum n (a ++ b) = dsum (dsum n a) b := by
  induction a generalizing n with
  | nil => rfl
  | cons c r ih => rw [List.cons_append, dsum_cons, dsum_cons, ih]
theorem dsum_le (l : List UInt8) (n : Nat) : n ≤ dsum n l := by
  induction l generalizing n with
  | nil => exact Nat.le_refl _
  | cons c r ih =>
    rw [dsum_cons]
    refine Nat.le_trans ?_ (ih _)
    split <;> omega
theorem dig_nat (d : Nat) (h : d < 10) : (UInt8.ofNat (48 + d)).toNat = 48 + d := by
  rw [UInt8.toNat_ofNat']; omega
theorem dsum_dig (n d : Nat) (h : d < 10) : dsum n [UInt8.ofNat (48 + d)] = 10 * n + d := by
  rw [dsum_cons, dig_nat d h, if_pos (by omega)]
  show 10 * n + (48 + d - 48) = _
  omega
theorem dsum_dec (u : Nat) : dsum 0 (Lib.decDigits u) = u := by
  induction u using Nat.strongRecOn with
  | _ u ih =>
    by_cases h : u < 10
    · rw [Lib.decDigits_one h, dsum_dig 0 u h]; omega
    · rw [Lib.decDigits, dif_neg h, dsum_app, ih (u / 10) (by omega), dsum_dig _ _ (by omega)]; omega
theorem dec_digits (u : Nat) : ∀ b ∈ Lib.decDigits u, 48 ≤ b.toNat ∧ b.toNat ≤ 57 := by
  induction u using Nat.strongRecOn with
  | _ u ih =>
    by_cases h : u < 10
    · rw [Lib.decDigits_one h]
      intro b hb
      rw [List.mem_singleton] at hb
      subst hb
      rw [dig_nat u h]; omega
    · rw [Lib.decDigits, dif_neg h]
      intro b hb
      rcases List.mem_append.1 hb with hb | hb
      · exact ih (u / 10) (by omega) b hb
      · rw [List.mem_singleton] at hb
        subst hb
        rw [dig_nat _ (by omega)]; omega
theorem dec_ne (u : Nat) : Lib.decDigits u ≠ [] := by
  intro e
  have h := Lib.decDigits_length u
  rw [e] at h
  have := Lib.nDigits_pos u
  simp at h
  omega
theorem nDigits_le : ∀ (k u : Nat), u < 10 ^ (k + 1) → Lib.nDigits u ≤ k + 1
  | 0, u, h => by rw [Lib.nDigits_small (by simpa using h)]; exact Nat.le_refl _
  | k + 1, u, h => by
    by_cases h1 : u < 10
    · rw [Lib.nDigits_small h1]; omega
    · rw [Lib.nDigits_big h1]
      have := nDigits_le k (u / 10) (by rw [Nat.pow_succ] at h; omega)
      omega

/-- A text's number. -/
def valD (l : List UInt8) : Int := if l.head? = some 45 then -(dsum 0 l : Int) else dsum 0 l
def okV (n : Int) : Bool := decide (-1000000000000000 ≤ n) && decide (n ≤ 1000000000000000)
theorem okV_b {n : Int} (h : okV n = true) : -1000000000000000 ≤ n ∧ n ≤ 1000000000000000 := by
  unfold okV at h
  simpa using h
theorem itoa_cases (n : Int) : (∃ u : Nat, n = u ∧ Lib.itoa n = Lib.decDigits u) ∨ (∃ u : Nat, 1 ≤ u ∧ n = -(u : Int) ∧ Lib.itoa n = 45 :: Lib.decDigits u) := by
  by_cases h : n < 0
  · right
    refine ⟨n.natAbs, by omega, by omega, ?_⟩
    unfold Lib.itoa
    rw [if_pos h]
  · left
    refine ⟨n.toNat, by omega, ?_⟩
    unfold Lib.itoa
    rw [if_neg h]
theorem head_dec (u : Nat) : ∃ c r, Lib.decDigits u = c :: r ∧ 48 ≤ c.toNat ∧ c.toNat ≤ 57 := by
  cases h : Lib.decDigits u with
  | nil => exact absurd h (dec_ne u)
  | cons c r =>
    have := dec_digits u c (by rw [h]; exact List.mem_cons_self ..)
    exact ⟨c, r, rfl, this⟩
theorem valD_itoa (n : Int) : valD (Lib.itoa n) = n := by
  rcases itoa_cases n with ⟨u, hu, e⟩ | ⟨u, h1, hu, e⟩
  · rw [e]
    unfold valD
    obtain ⟨c, r, hc, h48, h57⟩ := head_dec u
    rw [if_neg, dsum_dec, hu]
    rw [hc]
    intro h
    injection h with h
    subst h
    simp at h48
  · rw [e]
    unfold valD
    rw [if_pos (show (45 :: Lib.decDigits u).head? = some 45 from rfl), dsum_cons, if_neg (by decide), dsum_dec, hu]
theorem itoa_len17 (n : Int) (h : okV n = true) : 1 ≤ (Lib.itoa n).length ∧ (Lib.itoa n).length ≤ 17 := by
  have hb := okV_b h
  rcases itoa_cases n with ⟨u, hu, e⟩ | ⟨u, h1, hu, e⟩
  all_goals
    have h10 : u < 10 ^ (15 + 1) := by
      have e : (10 : Nat) ^ (15 + 1) = 10000000000000000 := by decide
      omega
    have h1 := nDigits_le 15 u h10
    have h2 := Lib.nDigits_pos u
    rw [e]
    simp only [List.length_cons, Lib.decDigits_length]
    omega

/-- The number with a text. -/
def goodd (l : List UInt8) : Option Int := if 1 ≤ l.length ∧ l.length ≤ 17 ∧ okV (valD l) = true ∧ Lib.itoa (valD l) = l then some (valD l) else none
theorem goodd_of {l : List UInt8} {v : Int} (h1 : okV v = true) (h2 : Lib.itoa v = l) : goodd l = some v := by
  subst h2
  have := itoa_len17 v h1
  unfold goodd
  rw [valD_itoa, if_pos ⟨this.1, this.2, h1, rfl⟩]
theorem goodd_some {l : List UInt8} {v : Int} (h : goodd l = some v) : okV v = true ∧ Lib.itoa v = l ∧ 1 ≤ l.length ∧ l.length ≤ 17 ∧ v = valD l := by
  unfold goodd at h
  split at h
  · rename_i hh
    injection h with h
    subst h
    exact ⟨hh.2.2.1, hh.2.2.2, hh.1, hh.2.1, rfl⟩
  · cases h
theorem uintM (l : List UInt8) (n : Nat) (hd : ∀ b ∈ l, 48 ≤ b.toNat ∧ b.toNat ≤ 57) (h : dsum n l ≤ 18446744073709551615) : Lib.parseUintM 18446744073709551615 n l = .ok (dsum n l) := by
  induction l generalizing n with
  | nil => rfl
  | cons c r ih =>
    have hc := hd c (List.mem_cons_self ..)
    rw [dsum_cons, if_pos hc] at h ⊢
    have hle := dsum_le r (10 * n + (c.toNat - 48))
    unfold Lib.parseUintM
    rw [if_pos hc, if_neg (by omega), if_neg (by omega), show n * 10 + (c.toNat - 48) = 10 * n + (c.toNat - 48) by omega]
    exact ih _ (fun b hb => hd b (List.mem_cons_of_mem _ hb)) h
theorem uintB (u : Nat) (h : u ≤ 1000000000000000) : Lib.parseUintB 64 (Lib.decDigits u) = .ok u := by
  unfold Lib.parseUintB
  rw [if_neg (dec_ne u)]
  have h1 := uintM (Lib.decDigits u) 0 (dec_digits u) (by rw [dsum_dec]; omega)
  rw [dsum_dec] at h1
  exact h1
theorem parse_itoa (n : Int) (h : okV n = true) : Lib.parseIntB 64 (Lib.itoa n) = .ok n := by
  have hb := okV_b h
  rcases itoa_cases n with ⟨u, hu, e⟩ | ⟨u, h1, hu, e⟩
  · rw [e]
    obtain ⟨c, r, hc, h48, h57⟩ := head_dec u
    have h1 := uintB u (by omega)
    rw [hc] at h1 ⊢
    rw [Lib.parseIntB_plain 64 c r (by omega) (by omega), h1]
    have e2 : (2 : Nat) ^ (64 - 1) = 9223372036854775808 := by decide
    show (if 2 ^ (64 - 1) ≤ u then Lib.NumEnd.range else Lib.NumEnd.ok (u : Int)) = _
    rw [if_neg (by rw [e2]; omega), hu]
  · rw [e, Lib.parseIntB_minus, uintB u (by omega)]
    have e2 : (2 : Nat) ^ (64 - 1) = 9223372036854775808 := by decide
    show (if 2 ^ (64 - 1) < u then Lib.NumEnd.range else Lib.NumEnd.ok (-(u : Int))) = _
    rw [if_neg (by rw [e2]; omega), hu]
theorem goodd_not {l : List UInt8} (h : ∀ v, Lib.parseIntB 64 l ≠ .ok v) : goodd l = none := by
  cases hg : goodd l with
  | none => rfl
  | some v =>
    obtain ⟨h1, h2, _⟩ := goodd_some hg
    exact absurd (by rw [← h2]; exact parse_itoa v h1) (h v)
theorem goodd_bad {l : List UInt8} {v : Int} (h : Lib.parseIntB 64 l = .ok v) (hb : ¬ (okV v = true ∧ Lib.itoa v = l)) : goodd l = none := by
  cases hg : goodd l with
  | none => rfl
  | some u =>
    obtain ⟨h1, h2, _⟩ := goodd_some hg
    have h3 := parse_itoa u h1
    rw [h2, h] at h3
    injection h3 with h3
    subst h3
    exact absurd ⟨h1, h2⟩ hb
/-- How many digits are left. -/
def dl (m : Nat) : Nat := if m = 0 then 0 else Lib.nDigits m
theorem dl_zero : dl 0 = 0 := rfl
theorem dl_step (m : Nat) (h : 1 ≤ m) : dl (m / 10) + 1 = dl m := by
  unfold dl
  rw [if_neg (show ¬ m = 0 by omega)]
  by_cases h10 : m < 10
  · rw [if_pos (by omega), Lib.nDigits_small h10]
  · rw [if_neg (by omega), Lib.nDigits_big h10]
theorem dl_le (m : Nat) (h : m ≤ 1000000000000000) : dl m ≤ 16 := by
  unfold dl
  split
  · omega
  · exact nDigits_le 15 m (by have e : (10 : Nat) ^ (15 + 1) = 10000000000000000 := by decide
                              omega)
end Go.Proofs.YtdkjaffnkgbcnaaGreatDoor
