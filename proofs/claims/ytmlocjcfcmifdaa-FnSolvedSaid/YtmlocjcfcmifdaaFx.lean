/- Plain facts on words of a binary format that stand for a number n / 2^k: sums, products, quotients by powers of two and orders of such are exact. No condition but those stated. -/
import Derived.Test.YtmlocjcfcmifdaaNum
import Derived.Laws.FloatArith
namespace Go.Proofs.Ytmlocjcfcmifdaa
open Ieee

/-- The sign as a number. -/
def sg (s : Bool) : Int := if s then -1 else 1
theorem signed_sg (s : Bool) (m u : Nat) : signed s m u = sg s * ((m * 2 ^ u : Nat) : Int) := by
  cases s
  · show ((m <<< u : Nat) : Int) = 1 * _
    rw [Nat.shiftLeft_eq, Int.one_mul]
  · show -((m <<< u : Nat) : Int) = (-1) * _
    rw [Nat.shiftLeft_eq]; omega
theorem sg_natAbs (s : Bool) : (sg s).natAbs = 1 := by cases s <;> rfl

theorem SameMag.of {m n : Nat} {i j : Int} (c : Int) (h1 : c ≤ i) (h2 : c ≤ j) (h : m * 2 ^ (i - c).toNat = n * 2 ^ (j - c).toNat) : SameMag m i n j := by
  unfold SameMag
  have e1 : (i - c).toNat = (i - min i j).toNat + (min i j - c).toNat := by omega
  have e2 : (j - c).toNat = (j - min i j).toNat + (min i j - c).toNat := by omega
  rw [e1, e2, Nat.pow_add, Nat.pow_add, ← Nat.mul_assoc, ← Nat.mul_assoc] at h
  exact Nat.eq_of_mul_eq_mul_right (Nat.two_pow_pos _) h

/-- The datum of sign s, digits m, place i is n / 2^k. -/
def Stands (s : Bool) (m : Nat) (i : Int) (k : Nat) (n : Int) : Prop :=
  ∃ c : Int, c ≤ i ∧ c ≤ -(k : Int) ∧ sg s * ((m * 2 ^ (i - c).toNat : Nat) : Int) = n * ((2 ^ (-(k : Int) - c).toNat : Nat) : Int)

/-- The word b of the format is n / 2^k. -/
def Is (f : Format) (b k : Nat) (n : Int) : Prop := ∃ s m i, f.read b = .number s m i ∧ Stands s m i k n

theorem Stands.lower {s : Bool} {m : Nat} {i : Int} {k : Nat} {n : Int} (h : Stands s m i k n) : ∃ c0 : Int, c0 ≤ i ∧ c0 ≤ -(k : Int) ∧ ∀ c ≤ c0, sg s * ((m * 2 ^ (i - c).toNat : Nat) : Int) = n * ((2 ^ (-(k : Int) - c).toNat : Nat) : Int) := by
  obtain ⟨c0, h1, h2, h3⟩ := h
  refine ⟨c0, h1, h2, fun c hc => ?_⟩
  have e1 : (i - c).toNat = (i - c0).toNat + (c0 - c).toNat := by omega
  have e2 : (-(k : Int) - c).toNat = (-(k : Int) - c0).toNat + (c0 - c).toNat := by omega
  rw [e1, e2, Nat.pow_add, Nat.pow_add, ← Nat.mul_assoc, Int.natCast_mul (m * 2 ^ (i - c0).toNat), Int.natCast_mul (2 ^ (-(k : Int) - c0).toNat), ← Int.mul_assoc, ← Int.mul_assoc, h3]

theorem Stands.zero {s : Bool} {i : Int} {k : Nat} : Stands s 0 i k 0 := ⟨min i (-(k : Int)), by omega, by omega, by simp⟩

theorem two_pow_ne (u : Nat) : ((2 ^ u : Nat) : Int) ≠ 0 := by
  have := Nat.two_pow_pos u; omega

theorem Stands.mag_zero {s : Bool} {m : Nat} {i : Int} {k : Nat} {n : Int} (h : Stands s m i k n) : m = 0 ↔ n = 0 := by
  obtain ⟨c, h1, h2, h3⟩ := h
  constructor
  · rintro rfl
    rw [Nat.zero_mul] at h3
    have : n * ((2 ^ (-(k : Int) - c).toNat : Nat) : Int) = 0 := by rw [← h3]; simp
    rcases Int.mul_eq_zero.1 this with h | h
    · exact h
    · exact absurd h (two_pow_ne _)
  · rintro rfl
    rw [Int.zero_mul] at h3
    rcases Int.mul_eq_zero.1 h3 with h | h
    · cases s <;> cases h
    · have h' : m * 2 ^ (i - c).toNat = 0 := by omega
      rcases Nat.mul_eq_zero.1 h' with h | h
      · exact h
      · exact absurd h (Nat.ne_of_gt (Nat.two_pow_pos _))

theorem Stands.abs {s : Bool} {m : Nat} {i : Int} {k : Nat} {n : Int} (h : Stands s m i k n) : ∃ c0 : Int, c0 ≤ i ∧ c0 ≤ -(k : Int) ∧ ∀ c ≤ c0, m * 2 ^ (i - c).toNat = n.natAbs * 2 ^ (-(k : Int) - c).toNat := by
  obtain ⟨c0, h1, h2, h3⟩ := h.lower
  refine ⟨c0, h1, h2, fun c hc => ?_⟩
  have h4 := congrArg Int.natAbs (h3 c hc)
  rw [Int.natAbs_mul, Int.natAbs_mul, sg_natAbs, Nat.one_mul, Int.natAbs_natCast, Int.natAbs_natCast] at h4
  exact h4

theorem Stands.sign {s : Bool} {m : Nat} {i : Int} {k : Nat} {n : Int} (h : Stands s m i k n) (hn : n ≠ 0) : sg s * (n.natAbs : Int) = n := by
  have hm : m ≠ 0 := fun e => hn (h.mag_zero.1 e)
  obtain ⟨c, h1, h2, h3⟩ := h
  have p1 : 0 < ((m * 2 ^ (i - c).toNat : Nat) : Int) := by
    have := Nat.mul_pos (Nat.pos_of_ne_zero hm) (Nat.two_pow_pos (i - c).toNat); omega
  have p2 : 0 < ((2 ^ (-(k : Int) - c).toNat : Nat) : Int) := by
    have := Nat.two_pow_pos (-(k : Int) - c).toNat; omega
  generalize ((m * 2 ^ (i - c).toNat : Nat) : Int) = A at *
  generalize ((2 ^ (-(k : Int) - c).toNat : Nat) : Int) = B at *
  cases s
  · have e : sg false = 1 := rfl
    rw [e, Int.one_mul] at h3
    have : 0 < n := by
      rcases Int.lt_trichotomy n 0 with h | h | h
      · have := Int.mul_neg_of_neg_of_pos h p2; omega
      · exact absurd h hn
      · exact h
    rw [e]; omega
  · have e : sg true = -1 := rfl
    rw [e] at h3
    have : n < 0 := by
      rcases Int.lt_trichotomy n 0 with h | h | h
      · exact h
      · exact absurd h hn
      · have := Int.mul_pos h p2; omega
    rw [e]; omega

/-- Which formats are spoken of. -/
structure Fit (f : Format) : Prop where
  least : f.leastPlace ≤ -149
  room : (-f.leastPlace).toNat + 2 ≤ 2 ^ f.exponentBits - 1
theorem fit_single : Fit single := ⟨by decide, by decide⟩
theorem fit_double : Fit double := ⟨by decide, by decide⟩

theorem rung_of (f : Format) (F : Fit f) (M : Nat) (E : Int) (h1 : f.binade ≤ M) (h2 : M < 2 * f.binade) (h3 : f.leastPlace ≤ E) (h4 : E ≤ 0) :
    ∃ r, r < f.infRung ∧ rungMag f r = M ∧ rungPlace f r = E := by
  have hb := binade_pos f
  obtain ⟨e, rfl⟩ : ∃ e : Nat, E = f.leastPlace + e := ⟨(E - f.leastPlace).toNat, by omega⟩
  obtain ⟨q, rfl⟩ : ∃ q : Nat, M = f.binade + q := ⟨M - f.binade, by omega⟩
  have hq : q < f.binade := by omega
  have he : e + 2 ≤ 2 ^ f.exponentBits - 1 := by have := F.room; omega
  have hdiv : ((e + 1) * f.binade + q) / f.binade = e + 1 := by
    rw [Nat.add_comm, Nat.add_mul_div_right _ _ hb, Nat.div_eq_of_lt hq]; omega
  have hmod : ((e + 1) * f.binade + q) % f.binade = q := by
    rw [Nat.add_comm, Nat.add_mul_mod_self_right, Nat.mod_eq_of_lt hq]
  have hge : ¬ ((e + 1) * f.binade + q < f.binade) := by
    rw [Nat.succ_mul]; omega
  refine ⟨(e + 1) * f.binade + q, ?_, ?_, ?_⟩
  · unfold Format.infRung
    calc (e + 1) * f.binade + q < (e + 1) * f.binade + f.binade := by omega
      _ = (e + 2) * f.binade := by rw [show e + 2 = (e + 1) + 1 from rfl, Nat.succ_mul (e + 1)]
      _ ≤ _ := Nat.mul_le_mul_right _ he
  · unfold rungMag; rw [if_neg hge, hmod]
  · unfold rungPlace; rw [if_neg hge, hdiv]; omega

/-- A number with few digits is written as it is. -/
theorem write_is (f : Format) (F : Fit f) {s : Bool} {m : Nat} {i : Int} {k : Nat} {n : Int} (h : Stands s m i k n) (hk : k + f.fractionBits ≤ 149) (hn : n.natAbs < 2 ^ (f.fractionBits + 1)) : Is f (f.nearest s m i) k n := by
  by_cases hz : m = 0
  · have hn0 := h.mag_zero.1 hz
    subst hz; subst hn0
    have e : f.nearest s 0 i = f.word s 0 := by unfold Format.nearest; rw [if_pos rfl]
    have hp : 0 < f.infRung := by
      unfold Format.infRung
      exact Nat.mul_pos (by have := F.room; omega) (binade_pos f)
    rw [e]
    refine ⟨s, _, _, read_word f s 0 hp, ?_⟩
    have : rungMag f 0 = 0 := by unfold rungMag; rw [if_pos (binade_pos f)]
    rw [this]
    exact Stands.zero
  · have hn0 : n ≠ 0 := fun e => hz (h.mag_zero.2 e)
    have hsg := h.sign hn0
    obtain ⟨c, hc1, hc2, hc3⟩ := h.abs
    have ha0 : n.natAbs ≠ 0 := by omega
    generalize n.natAbs = a at *
    have hl : a.log2 ≤ f.fractionBits := by
      have := (Nat.log2_lt ha0).2 hn; omega
    have a1 := Nat.log2_self_le ha0
    have a2 := @Nat.lt_log2_self a
    have hM1 : f.binade ≤ a * 2 ^ (f.fractionBits - a.log2) := by
      show 2 ^ f.fractionBits ≤ _
      calc 2 ^ f.fractionBits = 2 ^ a.log2 * 2 ^ (f.fractionBits - a.log2) := by rw [← Nat.pow_add]; congr 1; omega
        _ ≤ _ := Nat.mul_le_mul_right _ a1
    have hM2 : a * 2 ^ (f.fractionBits - a.log2) < 2 * f.binade := by
      show _ < 2 * 2 ^ f.fractionBits
      calc a * 2 ^ (f.fractionBits - a.log2) < 2 ^ (a.log2 + 1) * 2 ^ (f.fractionBits - a.log2) := Nat.mul_lt_mul_of_pos_right a2 (Nat.two_pow_pos _)
        _ = 2 ^ (f.fractionBits + 1) := by rw [← Nat.pow_add]; congr 1; omega
        _ = _ := by rw [Nat.pow_succ, Nat.mul_comm]
    have hL := F.least
    obtain ⟨r, hr, e1, e2⟩ := rung_of f F _ (-(k : Int) - (f.fractionBits - a.log2 : Nat)) hM1 hM2 (by omega) (by omega)
    have hd : ∀ c' ≤ c, c' ≤ -(k : Int) - (f.fractionBits - a.log2 : Nat) → a * 2 ^ (f.fractionBits - a.log2) * 2 ^ (-(k : Int) - (f.fractionBits - a.log2 : Nat) - c').toNat = a * 2 ^ (-(k : Int) - c').toNat := by
      intro c' _ h2
      rw [Nat.mul_assoc, ← Nat.pow_add]
      congr 2
      omega
    have hsm : SameMag m i (rungMag f r) (rungPlace f r) := by
      rw [e1, e2]
      refine SameMag.of (min c (-(k : Int) - (f.fractionBits - a.log2 : Nat))) (by omega) (by omega) ?_
      rw [hc3 _ (by omega), hd _ (by omega) (by omega)]
    rw [nearest_rung f s m i r hr hz hsm]
    refine ⟨s, _, _, read_word f s r hr, ?_⟩
    rw [e1, e2]
    refine ⟨min c (-(k : Int) - (f.fractionBits - a.log2 : Nat)), by omega, by omega, ?_⟩
    rw [hd _ (by omega) (by omega), Int.natCast_mul, ← Int.mul_assoc, hsg]

theorem Is.cast {f : Format} {b k : Nat} {n n' : Int} (h : Is f b k n) (e : n = n') : Is f b k n' := e ▸ h

theorem Stands.up {s : Bool} {m : Nat} {i : Int} {k : Nat} {n : Int} (h : Stands s m i k n) (j : Nat) : Stands s m i (k + j) (n * ((2 ^ j : Nat) : Int)) := by
  obtain ⟨c0, h1, h2, h3⟩ := h.lower
  refine ⟨min c0 (-((k + j : Nat) : Int)), by omega, by omega, ?_⟩
  rw [h3 _ (by omega), Int.mul_assoc, ← Int.natCast_mul, ← Nat.pow_add]
  congr 3
  omega

/-- The same number at a finer scale. -/
theorem Is.up {f : Format} {b k : Nat} {n : Int} (h : Is f b k n) (j : Nat) : Is f b (k + j) (n * ((2 ^ j : Nat) : Int)) := by
  obtain ⟨s, m, i, hr, hs⟩ := h
  exact ⟨s, m, i, hr, hs.up j⟩

theorem Stands.opp {s : Bool} {m : Nat} {i : Int} {k : Nat} {n : Int} (h : Stands s m i k n) : Stands (!s) m i k (-n) := by
  obtain ⟨c, h1, h2, h3⟩ := h
  refine ⟨c, h1, h2, ?_⟩
  have : sg (!s) = - sg s := by cases s <;> rfl
  rw [this, Int.neg_mul, Int.neg_mul, h3]

theorem Stands.sum {s t : Bool} {m n : Nat} {i j : Int} {k : Nat} {a b : Int} (h : Stands s m i k a) (g : Stands t n j k b) :
    ∃ q mm, Datum.sum (.number s m i) (.number t n j) = some (.number q mm (min i j)) ∧ Stands q mm (min i j) k (a + b) := by
  obtain ⟨c1, h1, h2, h3⟩ := h.lower
  obtain ⟨c2, g1, g2, g3⟩ := g.lower
  refine ⟨_, _, rfl, min c1 c2, by omega, by omega, ?_⟩
  have e1 := h3 (min c1 c2) (by omega)
  have e2 := g3 (min c1 c2) (by omega)
  have ei : (i - min c1 c2).toNat = (i - min i j).toNat + (min i j - min c1 c2).toNat := by omega
  have ej : (j - min c1 c2).toNat = (j - min i j).toNat + (min i j - min c1 c2).toNat := by omega
  rw [signed_sg, signed_sg]
  rw [ei, Nat.pow_add, ← Nat.mul_assoc, Int.natCast_mul, ← Int.mul_assoc] at e1
  rw [ej, Nat.pow_add, ← Nat.mul_assoc, Int.natCast_mul, ← Int.mul_assoc] at e2
  generalize sg s * ((m * 2 ^ (i - min i j).toNat : Nat) : Int) = X at *
  generalize sg t * ((n * 2 ^ (j - min i j).toNat : Nat) : Int) = Y at *
  rw [Int.add_mul, ← e1, ← e2, ← Int.add_mul, Int.natCast_mul, ← Int.mul_assoc]
  congr 1
  by_cases h0 : X + Y = 0
  · simp [h0]
  · rw [if_neg h0]
    by_cases hneg : X + Y < 0
    · simp only [hneg, decide_true]
      show (-1 : Int) * _ = _
      omega
    · simp only [hneg, decide_false]
      show (1 : Int) * _ = _
      omega

theorem quotient_number (d : Nat) {n : Nat} (s : Bool) (h : n ≠ 0) {m : Nat} {i j : Int} : Datum.quotient d (.number s m i) (.number false n j) =
    some (.number (s ^^ false) (2 * ((m <<< (d + n.log2 - m.log2)) / n) + ((m <<< (d + n.log2 - m.log2)) % n != 0).toNat) (i - j - (d + n.log2 - m.log2 : Nat) - 1)) := by
  simp only [Datum.quotient, if_neg h]

section
variable {f : Format} (F : Fit f)
include F
theorem Is.add {x y k : Nat} {a b : Int} (hx : Is f x k a) (hy : Is f y k b) (hk : k + f.fractionBits ≤ 149) (hn : (a + b).natAbs < 2 ^ (f.fractionBits + 1)) : ∃ r, f.add x y = some r ∧ Is f r k (a + b) := by
  obtain ⟨s, m, i, hr, hs⟩ := hx
  obtain ⟨t, n, j, hr', hs'⟩ := hy
  obtain ⟨q, mm, e, hq⟩ := hs.sum hs'
  refine ⟨_, by unfold Format.add; rw [hr, hr', e]; rfl, write_is f F hq hk hn⟩
theorem Is.sub {x y k : Nat} {a b : Int} (hx : Is f x k a) (hy : Is f y k b) (hk : k + f.fractionBits ≤ 149) (hn : (a - b).natAbs < 2 ^ (f.fractionBits + 1)) : ∃ r, f.sub x y = some r ∧ Is f r k (a - b) := by
  obtain ⟨s, m, i, hr, hs⟩ := hx
  obtain ⟨t, n, j, hr', hs'⟩ := hy
  obtain ⟨q, mm, e, hq⟩ := hs.sum hs'.opp
  rw [← Int.sub_eq_add_neg] at hq
  refine ⟨_, by unfold Format.sub; rw [hr, hr']; show (Datum.sum _ (Datum.number (!t) n j)).map _ = _; rw [e]; rfl, write_is f F hq hk hn⟩

theorem Is.mul {x y k l : Nat} {a b : Int} (hx : Is f x k a) (hy : Is f y l b) (hk : k + l + f.fractionBits ≤ 149) (hn : (a * b).natAbs < 2 ^ (f.fractionBits + 1)) : ∃ r, f.mul x y = some r ∧ Is f r (k + l) (a * b) := by
  obtain ⟨s, m, i, hr, hs⟩ := hx
  obtain ⟨t, n, j, hr', hs'⟩ := hy
  refine ⟨_, by unfold Format.mul; rw [hr, hr']; rfl, write_is f F ?_ hk hn⟩
  obtain ⟨c1, h1, h2, h3⟩ := hs
  obtain ⟨c2, g1, g2, g3⟩ := hs'
  refine ⟨c1 + c2, by omega, by omega, ?_⟩
  have e1 : (i + j - (c1 + c2)).toNat = (i - c1).toNat + (j - c2).toNat := by omega
  have e2 : (-((k + l : Nat) : Int) - (c1 + c2)).toNat = (-(k : Int) - c1).toNat + (-(l : Int) - c2).toNat := by omega
  have e3 : sg (s ^^ t) = sg s * sg t := by cases s <;> cases t <;> rfl
  have e4 : m * n * 2 ^ ((i - c1).toNat + (j - c2).toNat) = (m * 2 ^ (i - c1).toNat) * (n * 2 ^ (j - c2).toNat) := by
    rw [Nat.pow_add]; simp only [Nat.mul_assoc, Nat.mul_left_comm]
  rw [e1, e2, e3, e4, Nat.pow_add, Int.natCast_mul, Int.natCast_mul (2 ^ _)]
  generalize ((m * 2 ^ (i - c1).toNat : Nat) : Int) = A at *
  generalize ((n * 2 ^ (j - c2).toNat : Nat) : Int) = B at *
  calc sg s * sg t * (A * B) = (sg s * A) * (sg t * B) := by simp only [Int.mul_assoc, Int.mul_left_comm]
    _ = _ := by rw [h3, g3]; simp only [Int.mul_assoc, Int.mul_left_comm]

/-- Division by a word that is a power of two. -/
theorem Is.quo {x y k p : Nat} {a : Int} {ip : Int} (hx : Is f x k a) (hy : f.read y = .number false (2 ^ p) ip) (hlow : -((p : Int) + ip) ≤ 0) (hp : p ≤ f.fractionBits + 2) (hm : ∀ s m i, f.read x = .number s m i → m.log2 ≤ f.fractionBits)
    (hk : k + ((p : Int) + ip).toNat + f.fractionBits ≤ 149) (hn : a.natAbs < 2 ^ (f.fractionBits + 1)) : ∃ r, f.div x y = some r ∧ Is f r (k + ((p : Int) + ip).toNat) a := by
  obtain ⟨s, m, i, hr, hs⟩ := hx
  have hml := hm s m i hr
  have h20 : 2 ^ p ≠ 0 := Nat.ne_of_gt (Nat.two_pow_pos p)
  have hl2 : (2 ^ p).log2 = p := Nat.log2_two_pow
  have hdvd : (m <<< (f.fractionBits + 2 + (2 ^ p).log2 - m.log2)) = m * 2 ^ (f.fractionBits + 2 - m.log2) * 2 ^ p := by
    rw [Nat.shiftLeft_eq, hl2, Nat.mul_assoc, ← Nat.pow_add]; congr 2; omega
  refine ⟨_, by
    unfold Format.div
    rw [hr, hy, quotient_number _ _ h20]
    rfl, write_is f F ?_ hk hn⟩
  rw [hdvd, Nat.mul_div_cancel _ (Nat.two_pow_pos p), Nat.mul_mod_left, hl2]
  simp only [bne_self_eq_false, Bool.toNat_false, Nat.add_zero, Bool.xor_false]
  obtain ⟨c0, h1, h2, h3⟩ := hs.lower
  obtain ⟨u, hu⟩ : ∃ u : Nat, ip = (u : Int) - p := ⟨((p : Int) + ip).toNat, by omega⟩
  subst hu
  have eu : ((p : Int) + ((u : Int) - p)).toNat = u := by omega
  rw [eu]
  have e5 : ((f.fractionBits + 2 + p - m.log2 : Nat) : Int) = (f.fractionBits + 2 - m.log2 : Nat) + p := by omega
  rw [e5]
  generalize f.fractionBits + 2 - m.log2 = d at *
  refine ⟨c0 - u - d - 1, by omega, by omega, ?_⟩
  have e1 : (i - ((u : Int) - p) - ((d : Int) + p) - 1 - (c0 - u - d - 1)).toNat = (i - c0).toNat := by congr 1; omega
  have e2 : (-((k + u : Nat) : Int) - (c0 - u - d - 1)).toNat = (-(k : Int) - c0).toNat + (d + 1) := by omega
  have h4 := h3 c0 (by omega)
  have e6 : 2 * (m * 2 ^ d) * 2 ^ (i - c0).toNat = m * 2 ^ (i - c0).toNat * 2 ^ (d + 1) := by
    rw [Nat.pow_succ]; simp only [Nat.mul_assoc, Nat.mul_left_comm, Nat.mul_comm]
  rw [e1, e2, e6, Nat.pow_add 2 (-(k : Int) - c0).toNat, Int.natCast_mul, Int.natCast_mul (2 ^ (-(k : Int) - c0).toNat), ← Int.mul_assoc, ← Int.mul_assoc, h4]
end

/-- Words are in the order of their numbers. -/
theorem Is.order {f : Format} {x y k : Nat} {a b : Int} (hx : Is f x k a) (hy : Is f y k b) : f.order x y = some (compare a b) := by
  obtain ⟨s, m, i, hr, hs⟩ := hx
  obtain ⟨t, n, j, hr', hs'⟩ := hy
  obtain ⟨c1, h1, h2, h3⟩ := hs.lower
  obtain ⟨c2, g1, g2, g3⟩ := hs'.lower
  unfold Format.order
  rw [hr, hr']
  show some (compare (signed s m (i - min i j).toNat) (signed t n (j - min i j).toNat)) = _
  have e1 := h3 (min c1 c2) (by omega)
  have e2 := g3 (min c1 c2) (by omega)
  have ei : (i - min c1 c2).toNat = (i - min i j).toNat + (min i j - min c1 c2).toNat := by omega
  have ej : (j - min c1 c2).toNat = (j - min i j).toNat + (min i j - min c1 c2).toNat := by omega
  rw [ei, Nat.pow_add, ← Nat.mul_assoc, Int.natCast_mul, ← Int.mul_assoc] at e1
  rw [ej, Nat.pow_add, ← Nat.mul_assoc, Int.natCast_mul, ← Int.mul_assoc] at e2
  rw [signed_sg, signed_sg]
  generalize sg s * ((m * 2 ^ (i - min i j).toNat : Nat) : Int) = X at *
  generalize sg t * ((n * 2 ^ (j - min i j).toNat : Nat) : Int) = Y at *
  have p1 : 0 < ((2 ^ (min i j - min c1 c2).toNat : Nat) : Int) := by
    have := Nat.two_pow_pos (min i j - min c1 c2).toNat; omega
  have p2 : 0 < ((2 ^ (-(k : Int) - min c1 c2).toNat : Nat) : Int) := by
    have := Nat.two_pow_pos (-(k : Int) - min c1 c2).toNat; omega
  generalize ((2 ^ (min i j - min c1 c2).toNat : Nat) : Int) = P at *
  generalize ((2 ^ (-(k : Int) - min c1 c2).toNat : Nat) : Int) = Q at *
  congr 1
  have hlt : X < Y ↔ a < b := by
    constructor
    · intro h
      have := Int.mul_lt_mul_of_pos_right h p1
      rw [e1, e2] at this
      exact Int.lt_of_mul_lt_mul_right this (Int.le_of_lt p2)
    · intro h
      have := Int.mul_lt_mul_of_pos_right h p2
      rw [← e1, ← e2] at this
      exact Int.lt_of_mul_lt_mul_right this (Int.le_of_lt p1)
  have heq : X = Y ↔ a = b := by
    constructor
    · rintro rfl
      rw [e1] at e2
      exact Int.eq_of_mul_eq_mul_right (by omega) e2
    · rintro rfl
      rw [← e2] at e1
      exact Int.eq_of_mul_eq_mul_right (by omega) e1
  show compareOfLessAndEq X Y = compareOfLessAndEq a b
  unfold compareOfLessAndEq
  by_cases h : a < b
  · rw [if_pos h, if_pos (hlt.2 h)]
  · rw [if_neg h, if_neg (fun e => h (hlt.1 e))]
    by_cases h' : a = b
    · rw [if_pos h', if_pos (heq.2 h')]
    · rw [if_neg h', if_neg (fun e => h' (heq.1 e))]

/-- An integer as a word. -/
theorem Is.ofInt (f : Format) (F : Fit f) (hf : f.fractionBits ≤ 149) (n : Int) (hn : n.natAbs < 2 ^ (f.fractionBits + 1)) : Is f (f.nearest (decide (n < 0)) n.natAbs 0) 0 n := by
  refine write_is f F ⟨0, by omega, by simp, ?_⟩ (by omega) hn
  by_cases h : n < 0
  · simp only [h, decide_true]; show (-1 : Int) * _ = _; simp; omega
  · simp only [h, decide_false]; show (1 : Int) * _ = _; simp; omega
end Go.Proofs.Ytmlocjcfcmifdaa
