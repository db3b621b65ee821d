/- Plain: equations around a ring are solved, nearly, and what is found is no greater than half of what is given. No program. -/
import Derived.Test.YtmlocjcfcmifdaaXe
namespace Go.Proofs.Ytmlocjcfcmifdaa
open Ieee
set_option linter.unusedVariables false

theorem exists_max (f : Nat → Rat) : ∀ n, 0 < n → ∃ k, k < n ∧ ∀ i, i < n → f i ≤ f k
  | 0, h => by omega
  | 1, _ => ⟨0, by omega, fun i hi => by
      have e : i = 0 := by omega
      rw [e]; exact Rat.le_refl⟩
  | n + 2, _ => by
    obtain ⟨k, hk, hm⟩ := exists_max f (n + 1) (by omega)
    rcases Rat.le_total (a := f k) (b := f (n + 1)) with h | h
    · exact ⟨n + 1, by omega, fun i hi => by
        by_cases e : i = n + 1
        · rw [e]; exact Rat.le_refl
        · exact Rat.le_trans (hm i (by omega)) h⟩
    · exact ⟨k, by omega, fun i hi => by
        by_cases e : i = n + 1
        · rw [e]; exact h
        · exact hm i (by omega)⟩
def pv (n k : Nat) : Nat := (k + n - 1) % n
def nx (n k : Nat) : Nat := (k + 1) % n
theorem pv_lt {n k : Nat} (h : 0 < n) : pv n k < n := Nat.mod_lt _ h
theorem nx_lt {n k : Nat} (h : 0 < n) : nx n k < n := Nat.mod_lt _ h
theorem pv_zero {n : Nat} (h : 0 < n) : pv n 0 = n - 1 := by unfold pv; rw [Nat.zero_add]; exact Nat.mod_eq_of_lt (by omega)
theorem pv_pos {n k : Nat} (h0 : 0 < k) (h : k < n) : pv n k = k - 1 := by
  unfold pv
  rw [show k + n - 1 = k - 1 + n by omega, Nat.add_mod_right, Nat.mod_eq_of_lt (by omega)]
theorem nx_last {n : Nat} (h : 0 < n) : nx n (n - 1) = 0 := by unfold nx; rw [show n - 1 + 1 = n by omega, Nat.mod_self]
theorem nx_in {n k : Nat} (h : k + 1 < n) : nx n k = k + 1 := Nat.mod_eq_of_lt h
/-- What solves equations around a ring is no greater than half of what is given. -/
theorem ring_max {n : Nat} (hn : 0 < n) {x r : Nat → Rat} {R ε : Rat} (hr : ∀ k, k < n → Cl (r k) 0 R) (h : ∀ k, k < n → Cl (4 * x k - x (pv n k) - x (nx n k)) (r k) ε) : ∀ k, k < n → Cl (x k) 0 ((R + ε) / 2) := by
  intro k hk
  obtain ⟨a, ha, ma⟩ := exists_max x n hn
  obtain ⟨b, hb, mb⟩ := exists_max (fun i => -x i) n hn
  have a1 := hr a ha
  have a2 := h a ha
  have a3 := ma (pv n a) (pv_lt hn)
  have a4 := ma (nx n a) (nx_lt hn)
  have a5 := ma k hk
  have b1 := hr b hb
  have b2 := h b hb
  have b3 := mb (pv n b) (pv_lt hn)
  have b4 := mb (nx n b) (nx_lt hn)
  have b5 := mb k hk
  unfold Cl at *
  constructor <;> grind

theorem ring_words : (V single 3212836864 = -1 ∧ V single 1090519040 = 8 ∧ V single 1082654720 = 17 / 4 ∧ V single 1082130432 = 4) ∧ V single 3229614080 = -4 ∧ V single 1048576000 = 1 / 4 ∧ V single 1065353216 = 1 := by decide +kernel
theorem ring_nms : (Nm single 3212836864 ∧ Nm single 1090519040 ∧ Nm single 1082654720 ∧ Nm single 1082130432) ∧ Nm single 3229614080 ∧ Nm single 1048576000 ∧ Nm single 1065353216 :=
  ⟨⟨⟨_, _, _, rfl⟩, ⟨_, _, _, rfl⟩, ⟨_, _, _, rfl⟩, ⟨_, _, _, rfl⟩⟩, ⟨_, _, _, rfl⟩, ⟨_, _, _, rfl⟩, ⟨_, _, _, rfl⟩⟩
theorem first_fac : V single (sD 3212836864 1090519040) = -(1 / 8) := by decide +kernel

theorem mR_in (n k : Nat) : Nm single (mR n k) ∧ 4 ≤ V single (mR n k) ∧ V single (mR n k) ≤ 8 := by
  obtain ⟨⟨_, v8, v17, v4⟩, _⟩ := ring_words
  obtain ⟨⟨_, n8, n17, n4⟩, _⟩ := ring_nms
  unfold mR
  by_cases h0 : k = 0
  · rw [if_pos h0, v8]; exact ⟨n8, by grind, by grind⟩
  · rw [if_neg h0]
    by_cases h1 : k = n - 1
    · rw [if_pos h1, v17]; exact ⟨n17, by grind, by grind⟩
    · rw [if_neg h1, v4]; exact ⟨n4, by grind, by grind⟩

theorem ring_p {n : Nat} (hn : 3 ≤ n) {r : Nat → Nat} (hr : ∀ k, k < n → Wn (r k) 48) : RowIn n lR (mR n) lR r 4 (7 / 25) 48 18 26 7 := by
  obtain ⟨⟨v1, v8, _⟩, _⟩ := ring_words
  obtain ⟨⟨n1, n8, _⟩, _⟩ := ring_nms
  have q7 : p2 7 = 128 := by decide +kernel
  have u7 : ulp single 7 = 1 / 131072 := by decide +kernel
  have w1 : Wn 3212836864 1 := ⟨n1, by rw [v1]; unfold Cl; constructor <;> grind⟩
  have b0 := (hr 0 (by omega)).bd
  exact {
    n0 := by omega
    hl := fun k hk => w1
    hu := fun k hk => w1
    hm := fun k hk => mR_in n k
    hr := fun k hk _ => hr k hk
    nr0 := (hr 0 (by omega)).nm
    h0 := by
      have e : mR n 0 = 1090519040 := rfl
      rw [e, v8, u7]
      exact b0.mono (by grind)
    g0 := by grind
    g1 := by grind
    mu := by grind
    R0 := by grind
    gm := by grind
    dd := by rw [u7]; grind
    xx := by rw [u7]; grind
    D0 := by rw [u7]; grind
    X1 := by rw [q7]; grind
    D1 := by rw [q7]; grind
    u1 := by rw [u7]; grind
    e0 := by decide
    e1 := by decide }

theorem uR_in (n k : Nat) (h0 : 0 < k) : Wn (uR n k) 1 := by
  obtain ⟨⟨v1, _⟩, _⟩ := ring_words
  obtain ⟨⟨n1, _⟩, _⟩ := ring_nms
  unfold uR
  rw [if_neg (by omega)]
  by_cases h1 : k = n - 1
  · rw [if_pos h1]; exact ⟨n1, by rw [v1]; unfold Cl; constructor <;> grind⟩
  · rw [if_neg h1]; exact ⟨nm0.1, by rw [nm0.2]; unfold Cl; constructor <;> grind⟩
theorem ring_q {n : Nat} (hn : 3 ≤ n) : RowIn n lR (mR n) lR (uR n) 4 (7 / 25) 1 (51 / 100) (71 / 100) 2 := by
  obtain ⟨⟨v1, v8, _⟩, vm4, _⟩ := ring_words
  obtain ⟨⟨n1, n8, _⟩, nm4, _⟩ := ring_nms
  have q2 : p2 2 = 4 := by decide +kernel
  have u2 : ulp single 2 = 1 / 4194304 := by decide +kernel
  have w1 : Wn 3212836864 1 := ⟨n1, by rw [v1]; unfold Cl; constructor <;> grind⟩
  exact {
    n0 := by omega
    hl := fun k hk => w1
    hu := fun k hk => w1
    hm := fun k hk => mR_in n k
    hr := fun k hk h0 => uR_in n k h0
    nr0 := nm4
    h0 := by
      have e : mR n 0 = 1090519040 := rfl
      have e2 : uR n 0 = 3229614080 := rfl
      rw [e, e2, v8, vm4, u2]
      unfold Cl; constructor <;> grind
    g0 := by grind
    g1 := by grind
    mu := by grind
    R0 := by grind
    gm := by grind
    dd := by rw [u2]; grind
    xx := by rw [u2]; grind
    D0 := by rw [u2]; grind
    X1 := by rw [q2]; grind
    D1 := by rw [q2]; grind
    u1 := by rw [u2]; grind
    e0 := by decide
    e1 := by decide }

theorem ring_any {n : Nat} (hn : 3 ≤ n) {r : Nat → Nat} (hr : ∀ k, k < n → Wn (r k) 48) :
    ∃ p q t1 t2 t3 t4 t5 f z x, RingW n r p q t1 t2 t3 t4 t5 f z x ∧ (∀ k, k < n → Nm single (x k)) ∧ (∀ k, k < n → Cl (4 * V single (x k) - V single (x (pv n k)) - V single (x (nx n k))) (V single (r k)) (1 / 250)) := by
  obtain ⟨⟨v1, v8, v17, v4⟩, vm4, v25, vo⟩ := ring_words
  obtain ⟨⟨n1, n8, n17, n4⟩, nm4, n25, no⟩ := ring_nms
  obtain ⟨ta, ma, sa, ra, ca, da, wa, p, P1, P2, P3, P4, P5⟩ := row_any (ring_p hn hr)
  obtain ⟨tb, mb, sb, rb, cb, db, wb, q, Q1, Q2, Q3, Q4, Q5⟩ := row_any (ring_q hn)
  have u7 : ulp single 7 = 1 / 131072 := by decide +kernel
  have u2 : ulp single 2 = 1 / 4194304 := by decide +kernel
  have u1 : ulp single 1 = 1 / 8388608 := by decide +kernel
  have u3 : ulp single 3 = 1 / 2097152 := by decide +kernel
  have u5 : ulp single 5 = 1 / 524288 := by decide +kernel
  have u9 : ulp single 9 = 1 / 32768 := by decide +kernel
  have p7 : p2 7 = 128 := by decide +kernel
  have p1 : p2 1 = 2 := by decide +kernel
  have p3 : p2 3 = 8 := by decide +kernel
  have p5 : p2 5 = 32 := by decide +kernel
  -- the ends
  have pl : Wn (p (n - 1)) 18 := by rw [P1.xe]; exact P4 (n - 1) (by omega)
  have ql : Wn (q (n - 1)) (51 / 100) := by rw [Q1.xe]; exact Q4 (n - 1) (by omega)
  have q0 : Cl (V single (q 0)) 0 (3 / 5) := by
    obtain ⟨h1, h2⟩ := Q5 0 (by omega)
    have hc : V single (cb 0) = -(1 / 8) := by rw [Q3]; exact first_fac
    rw [hc, u2] at h1
    rw [u2] at h2
    have h3 := (Q4 0 (by omega)).bd
    have h4 := (Q2.hx 1 (by omega)).bd
    unfold Cl at *
    constructor <;> grind
  have wq0 : Wn (q 0) (3 / 5) := ⟨(Q2.hx 0 (by omega)).nm, q0⟩
  have wp0 := P2.hx 0 (by omega)
  have w25 : Wn 1048576000 (1 / 4) := ⟨n25, by rw [v25]; unfold Cl; constructor <;> grind⟩
  have wo : Wn 1065353216 1 := ⟨no, by rw [vo]; unfold Cl; constructor <;> grind⟩
  obtain ⟨f1, g1, k1⟩ := sM_near w25 pl 3 (by rw [p3]; grind) (ex_single (by decide) (by decide))
  rw [u3] at g1 k1
  rw [v25] at k1
  generalize hT1 : sM 1048576000 (p (n - 1)) = t1 at *
  obtain ⟨f2, g2, k2⟩ := sA_near wp0 g1 5 (by rw [p5]; grind) (ex_single (by decide) (by decide))
  rw [u5] at g2 k2
  generalize hT2 : sA (p 0) t1 = t2 at *
  obtain ⟨f3, g3, k3⟩ := sA_near wo wq0 1 (by rw [p1]; grind) (ex_single (by decide) (by decide))
  rw [u1] at g3 k3
  rw [vo] at k3
  generalize hT3 : sA 1065353216 (q 0) = t3 at *
  obtain ⟨f4, g4, k4⟩ := sM_near w25 ql 1 (by rw [p1]; grind) (ex_single (by decide) (by decide))
  rw [u1] at g4 k4
  rw [v25] at k4
  generalize hT4 : sM 1048576000 (q (n - 1)) = t4 at *
  obtain ⟨f5, g5, k5⟩ := sA_near g3 g4 1 (by rw [p1]; grind) (ex_single (by decide) (by decide))
  rw [u1] at g5 k5
  generalize hT5 : sA t3 t4 = t5 at *
  have bt5 := ql.bd
  have lo5 : 27 / 100 ≤ V single t5 := by unfold Cl at *; grind
  obtain ⟨f6, g6, k6⟩ := sD_near g2.nm g5.nm (27 / 100) (by grind) lo5 114 (by grind) (g2.bd.mono (by grind)) 7 (by rw [p7]; grind) (ex_single (by decide) (by decide))
  rw [show (7 : Int) + 2 = 9 by rfl, u9] at g6 k6
  generalize hF : sD t2 t5 = f at *
  have hz : ∀ i, i < n → floatBits .mul .f32 f (q i) = some (sM f (q i)) ∧ Wn (sM f (q i)) 82 ∧ Cl (V single (sM f (q i))) (V single f * V single (q i)) (1 / 131072) := by
    intro i hi
    obtain ⟨a, b, c⟩ := sM_near g6 (Q2.hx i hi) 7 (by rw [p7]; grind) (ex_single (by decide) (by decide))
    rw [u7] at b c
    exact ⟨a, b.mono (by grind), c⟩
  have hx : ∀ i, i < n → floatBits .sub .f32 (p i) (sM f (q i)) = some (sS (p i) (sM f (q i))) ∧ Nm single (sS (p i) (sM f (q i))) ∧ Cl (V single (sS (p i) (sM f (q i)))) (V single (p i) - V single f * V single (q i)) (1 / 65536) := by
    intro i hi
    obtain ⟨_, b, c⟩ := hz i hi
    obtain ⟨a', b', c'⟩ := sS_near (P2.hx i hi) b 7 (by rw [p7]; grind) (ex_single (by decide) (by decide))
    rw [u7] at b' c'
    refine ⟨a', b'.nm, ?_⟩
    unfold Cl at *
    constructor <;> grind
  refine ⟨p, q, t1, t2, t3, t4, t5, f, fun i => sM f (q i), fun i => sS (p i) (sM f (q i)), ⟨⟨ta, ma, sa, ra, ca, da, wa, P1⟩, ⟨tb, mb, sb, rb, cb, db, wb, Q1⟩, f1, f2, f3, f4, f5, f6, fun i hi => (hz i hi).1, fun i hi => (hx i hi).1⟩, fun k hk => (hx k hk).2.1, ?_⟩
  -- the factor
  have hFd : Cl (V single (p 0) + V single (p (n - 1)) / 4) (V single f * (1 + V single (q 0) + V single (q (n - 1)) / 4)) (1 / 8000) := by
    have bf := g6.bd
    have e5 : Cl (V single t5) (1 + V single (q 0) + V single (q (n - 1)) / 4) (3 / 8388608) := by unfold Cl at *; constructor <;> grind
    have m := bf.prod e5.zero_of
    have hi5 : V single t5 ≤ 2 := by have := g5.bd; unfold Cl at this; grind
    have e6 : 1 / 32768 * V single t5 ≤ 1 / 16384 := by grind
    have e2 : Cl (V single t2) (V single (p 0) + V single (p (n - 1)) / 4) (1 / 500000 + 1 / 2000000) := by unfold Cl at *; constructor <;> grind
    have k6' := k6.mono e6
    unfold Cl at *
    constructor <;> grind
  have bf : Cl (V single f) 0 115 := g6.bd.mono (by grind)
  -- the equations of p and q
  have eP : ∀ k, k < n → Cl (V single (mR n k) * V single (p k) - (if 0 < k then V single (p (k - 1)) else 0) - (if k + 1 < n then V single (p (k + 1)) else 0)) (V single (r k)) (1 / 1300) := by
    intro k hk
    have h := P2.res k hk
    have l1 : V single (lR k) = -1 := v1
    rw [l1, u7] at h
    unfold Cl at *
    by_cases h0 : 0 < k
    · by_cases h1 : k + 1 < n
      · rw [if_pos h0, if_pos h1] at *; constructor <;> grind
      · rw [if_pos h0, if_neg h1] at *; constructor <;> grind
    · by_cases h1 : k + 1 < n
      · rw [if_neg h0, if_pos h1] at *; constructor <;> grind
      · rw [if_neg h0, if_neg h1] at *; constructor <;> grind
  have eQ : ∀ k, k < n → Cl (V single (mR n k) * V single (q k) - (if 0 < k then V single (q (k - 1)) else 0) - (if k + 1 < n then V single (q (k + 1)) else 0)) (V single (uR n k)) (1 / 46000) := by
    intro k hk
    have h := Q2.res k hk
    have l1 : V single (lR k) = -1 := v1
    rw [l1, u2] at h
    unfold Cl at *
    by_cases h0 : 0 < k
    · by_cases h1 : k + 1 < n
      · rw [if_pos h0, if_pos h1] at *; constructor <;> grind
      · rw [if_pos h0, if_neg h1] at *; constructor <;> grind
    · by_cases h1 : k + 1 < n
      · rw [if_neg h0, if_pos h1] at *; constructor <;> grind
      · rw [if_neg h0, if_neg h1] at *; constructor <;> grind
  intro k hk
  have x0 := (hx k hk).2.2
  have x1 := (hx (pv n k) (pv_lt (by omega))).2.2
  have x2 := (hx (nx n k) (nx_lt (by omega))).2.2
  have ep := eP k hk
  have eq := eQ k hk
  have mq := bf.prod eq.zero_of
  clear hx hz eP eQ P2 Q2 P1 Q1 P4 Q4 P5 Q5 hr
  by_cases h0 : k = 0
  · subst h0
    have e1 : mR n 0 = 1090519040 := rfl
    have e2 : uR n 0 = 3229614080 := rfl
    rw [if_neg (by omega), if_pos (by omega), e1, v8] at ep eq mq
    rw [e2, vm4] at eq mq
    rw [pv_zero (by omega), nx_in (by omega)] at *
    unfold Cl at *
    constructor <;> grind
  · by_cases h1 : k = n - 1
    · subst h1
      have e1 : mR n (n - 1) = 1082654720 := by unfold mR; rw [if_neg h0, if_pos rfl]
      have e2 : uR n (n - 1) = 3212836864 := by unfold uR; rw [if_neg h0, if_pos rfl]
      rw [if_pos (by omega), if_neg (by omega), e1, v17] at ep eq
      rw [e2, v1] at eq
      rw [e2, v1, if_pos (by omega), if_neg (by omega), e1, v17] at mq
      rw [pv_pos (by omega) (by omega), nx_last (by omega)] at *
      unfold Cl at *
      constructor <;> grind
    · have e1 : mR n k = 1082130432 := by unfold mR; rw [if_neg h0, if_neg h1]
      have e2 : uR n k = 0 := by unfold uR; rw [if_neg h0, if_neg h1]
      rw [if_pos (by omega), if_pos (by omega), e1, v4] at ep eq
      rw [e2, nm0.2] at eq
      rw [e2, nm0.2, if_pos (by omega), if_pos (by omega), e1, v4] at mq
      rw [pv_pos (by omega) (by omega), nx_in (by omega)] at *
      unfold Cl at *
      constructor <;> grind
end Go.Proofs.Ytmlocjcfcmifdaa
