/- Plain: sweeps by words of single precision: they run, and bring each number near the potential. No program. -/
import Derived.Test.YtmlocjcfcmifdaaXp
namespace Go.Proofs.Ytmlocjcfcmifdaa
open Ieee
set_option linter.unusedVariables false

/-- What a corner becomes. -/
def swU (W H : Nat) (r v : Nat → Nat) (k : Nat) : Nat := sM 1048576000 (sA (sA (sA (sA (r k) (v (nL W H k))) (v (nR W H k))) (v (nU W H k))) (v (nD W H k)))
/-- It runs. -/
def SwUW (W H : Nat) (r v : Nat → Nat) (k u : Nat) : Prop := ∃ a1 a2 a3 a4, floatBits .add .f32 (r k) (v (nL W H k)) = some a1 ∧ floatBits .add .f32 a1 (v (nR W H k)) = some a2 ∧ floatBits .add .f32 a2 (v (nU W H k)) = some a3 ∧ floatBits .add .f32 a3 (v (nD W H k)) = some a4 ∧ floatBits .mul .f32 1048576000 a4 = some u
def swS (W H c : Nat) (r : Nat → Nat) : Nat → (Nat → Nat) → Nat → Nat
  | 0, v => v
  | k + 1, v => fun i => if (k % W + k / W) % 2 = c ∧ i = k then swU W H r (swS W H c r k v) k else swS W H c r k v i
def swF (W H : Nat) (r v : Nat → Nat) : Nat → Nat := swS W H 1 r (W * H) (swS W H 0 r (W * H) v)
def swI (W H : Nat) (r : Nat → Nat) : Nat → (Nat → Nat) → Nat → Nat
  | 0, v => v
  | m + 1, v => swF W H r (swI W H r m v)
def OkS (W H c : Nat) (r v : Nat → Nat) : Prop := ∀ k, k < W * H → (k % W + k / W) % 2 = c → SwUW W H r (swS W H c r k v) k (swU W H r (swS W H c r k v) k)
def OkI (W H : Nat) (r v : Nat → Nat) (m : Nat) : Prop := ∀ j, j < m → OkS W H 0 r (swI W H r j v) ∧ OkS W H 1 r (swS W H 0 r (W * H) (swI W H r j v))
theorem swS_else (W H c : Nat) (r v : Nat → Nat) (i : Nat) (h : (i % W + i / W) % 2 ≠ c) : ∀ k, swS W H c r k v i = v i
  | 0 => rfl
  | k + 1 => by
    have ih := swS_else W H c r v i h k
    show (if (k % W + k / W) % 2 = c ∧ i = k then _ else swS W H c r k v i) = _
    rw [if_neg (fun q => by obtain ⟨a, rfl⟩ := q; exact h a)]
    exact ih

theorem upd_near {W H k : Nat} {r t : Nat → Nat} (hk : k < W * H) (wr : Wn (r k) 11) (wt : ∀ i, i < W * H → Wn (t i) 60) :
    SwUW W H r t k (swU W H r t k) ∧ Nm single (swU W H r t k) ∧ Cl (V single (swU W H r t k)) ((V single (r k) + V single (t (nL W H k)) + V single (t (nR W H k)) + V single (t (nU W H k)) + V single (t (nD W H k))) / 4) (1 / 58000) := by
  obtain ⟨_, _, v25, _⟩ := ring_words
  obtain ⟨_, _, n25, _⟩ := ring_nms
  have p7 : p2 7 = 128 := by decide +kernel
  have p8 : p2 8 = 256 := by decide +kernel
  have p6 : p2 6 = 64 := by decide +kernel
  have u7 : ulp single 7 = 1 / 131072 := by decide +kernel
  have u8 : ulp single 8 = 1 / 65536 := by decide +kernel
  have u6 : ulp single 6 = 1 / 262144 := by decide +kernel
  obtain ⟨l1, l2, l3, l4⟩ := nb_lt hk
  have w25 : Wn 1048576000 (1 / 4) := ⟨n25, by rw [v25]; unfold Cl; constructor <;> grind⟩
  obtain ⟨f1, g1, k1⟩ := sA_near wr (wt _ l1) 7 (by rw [p7]; grind) (ex_single (by decide) (by decide))
  obtain ⟨f2, g2, k2⟩ := sA_near g1 (wt _ l2) 8 (by rw [p8, u7]; grind) (ex_single (by decide) (by decide))
  obtain ⟨f3, g3, k3⟩ := sA_near g2 (wt _ l3) 8 (by rw [p8, u7, u8]; grind) (ex_single (by decide) (by decide))
  obtain ⟨f4, g4, k4⟩ := sA_near g3 (wt _ l4) 8 (by rw [p8, u7, u8]; grind) (ex_single (by decide) (by decide))
  obtain ⟨f5, g5, k5⟩ := sM_near w25 g4 6 (by rw [p6, u7, u8]; grind) (ex_single (by decide) (by decide))
  refine ⟨⟨_, _, _, _, f1, f2, f3, f4, f5⟩, g5.nm, ?_⟩
  rw [u7] at k1
  rw [u8] at k2 k3 k4
  rw [u6, v25] at k5
  unfold swU
  unfold Cl at *
  constructor <;> grind

/-- What sweeps are given: a right side, its potential, the words at the start. -/
structure SwIn (W H : Nat) (r : Nat → Nat) (p : Nat → Rat) (K : Rat) : Prop where
  wr : ∀ i, i < W * H → Wn (r i) 11
  pot : ∃ σ : Rat, Cl σ 0 (1 / 20000) ∧ ∀ i, i < W * H → 4 * p i - p (nL W H i) - p (nR W H i) - p (nU W H i) - p (nD W H i) = V single (r i) - σ
  bp : ∀ i, i < W * H → Cl (p i) 0 K
/-- How far words are from the potential. -/
def Dst (W H : Nat) (p : Nat → Rat) (v : Nat → Nat) (D : Rat) : Prop := ∀ i, i < W * H → Nm single (v i) ∧ Cl (V single (v i) - p i) 0 D
def errE (p : Nat → Rat) (v : Nat → Nat) (i : Nat) : Rat := V single (v i) - p i

section
variable {W H : Nat} {r : Nat → Nat} {p : Nat → Rat} {K : Rat} (I : SwIn W H r p K)
include I

theorem SwIn.upd {t : Nat → Nat} {D : Rat} (hD : Dst W H p t D) (hb : K + D ≤ 60) {k : Nat} (hk : k < W * H) :
    SwUW W H r t k (swU W H r t k) ∧ Nm single (swU W H r t k) ∧ Cl (V single (swU W H r t k) - p k) ((errE p t (nL W H k) + errE p t (nR W H k) + errE p t (nU W H k) + errE p t (nD W H k)) / 4) (1 / 33000) ∧ Cl (V single (swU W H r t k) - p k) 0 (D + 1 / 33000) := by
  have wt : ∀ i, i < W * H → Wn (t i) 60 := fun i hi => ⟨(hD i hi).1, by have := (hD i hi).2; have := I.bp i hi; unfold Cl at *; constructor <;> grind⟩
  obtain ⟨a, b, c⟩ := upd_near hk (I.wr k hk) wt
  obtain ⟨σ, hσ, hp⟩ := I.pot
  have q := hp k hk
  obtain ⟨l1, l2, l3, l4⟩ := nb_lt hk
  have d1 := (hD _ l1).2
  have d2 := (hD _ l2).2
  have d3 := (hD _ l3).2
  have d4 := (hD _ l4).2
  refine ⟨a, b, ?_, ?_⟩
  · unfold errE Cl at *
    constructor <;> grind
  · unfold Cl at *
    constructor <;> grind

theorem SwIn.half (c : Nat) {v : Nat → Nat} {D : Rat} (hD : Dst W H p v D) (hb : K + D + ((W * H : Nat) : Rat) * (1 / 33000) ≤ 60) :
    ∀ k, k ≤ W * H → Dst W H p (swS W H c r k v) (D + (k : Rat) * (1 / 33000)) ∧ SwR W H c (1 / 33000) k (errE p v) (errE p (swS W H c r k v)) ∧ (∀ j, j < k → (j % W + j / W) % 2 = c → SwUW W H r (swS W H c r j v) j (swU W H r (swS W H c r j v) j))
  | 0, _ => by
    have z : ((0 : Nat) : Rat) = 0 := rfl
    exact ⟨fun i hi => ⟨(hD i hi).1, (hD i hi).2.mono (by rw [z]; grind)⟩, fun i => rfl, fun j hj => by omega⟩
  | k + 1, hk => by
    obtain ⟨ih1, ih2, ih3⟩ := SwIn.half c hD hb k (by omega)
    have hkn : ((k : Nat) : Rat) ≤ ((W * H : Nat) : Rat) := Rat.natCast_le_natCast.2 (by omega)
    have u := I.upd ih1 (by grind) (show k < W * H by omega)
    have ek : ((k + 1 : Nat) : Rat) = (k : Rat) + 1 := by simp
    have es : ∀ i, swS W H c r (k + 1) v i = if (k % W + k / W) % 2 = c ∧ i = k then swU W H r (swS W H c r k v) k else swS W H c r k v i := fun i => rfl
    refine ⟨fun i hi => ?_, ⟨_, ih2, ?_⟩, fun j hj hc => ?_⟩
    · rw [es i, ek]
      by_cases q : (k % W + k / W) % 2 = c ∧ i = k
      · rw [if_pos q]
        obtain ⟨_, rfl⟩ := q
        exact ⟨u.2.1, u.2.2.2.mono (by grind)⟩
      · rw [if_neg q]
        exact ⟨(ih1 i hi).1, (ih1 i hi).2.mono (by grind)⟩
    · by_cases q : (k % W + k / W) % 2 = c
      · rw [if_pos q]
        refine ⟨?_, fun i hi => ?_⟩
        · show Cl (V single (swS W H c r (k + 1) v k) - p k) _ _
          rw [es k, if_pos ⟨q, rfl⟩]
          exact u.2.2.1
        · show V single (swS W H c r (k + 1) v i) - p i = _
          rw [es i, if_neg (fun h => hi h.2)]
          rfl
      · rw [if_neg q]
        intro i
        show V single (swS W H c r (k + 1) v i) - p i = _
        rw [es i, if_neg (fun h => q h.1)]
        rfl
    · by_cases e : j = k
      · subst e; exact u.1
      · exact ih3 j (by omega) hc

theorem SwIn.full {v : Nat → Nat} {D : Rat} (hD : Dst W H p v D) (hb : K + D + 2 * (((W * H : Nat) : Rat) * (1 / 33000)) ≤ 60) :
    Dst W H p (swF W H r v) (D + 2 * (((W * H : Nat) : Rat) * (1 / 33000))) ∧ SwF W H (1 / 33000) (errE p v) (errE p (swF W H r v)) ∧ OkS W H 0 r v ∧ OkS W H 1 r (swS W H 0 r (W * H) v) := by
  have n0 : (0 : Rat) ≤ ((W * H : Nat) : Rat) := Rat.natCast_nonneg
  obtain ⟨a1, a2, a3⟩ := I.half 0 hD (by grind) (W * H) (Nat.le_refl _)
  obtain ⟨b1, b2, b3⟩ := I.half 1 a1 (by grind) (W * H) (Nat.le_refl _)
  exact ⟨fun i hi => ⟨(b1 i hi).1, (b1 i hi).2.mono (by grind)⟩, ⟨_, a2, b2⟩, a3, b3⟩

theorem SwIn.many {v : Nat → Nat} {D : Rat} (hD : Dst W H p v D) : ∀ m : Nat, K + D + (m : Rat) * (2 * (((W * H : Nat) : Rat) * (1 / 33000))) ≤ 60 →
    Dst W H p (swI W H r m v) (D + (m : Rat) * (2 * (((W * H : Nat) : Rat) * (1 / 33000)))) ∧ SwI W H (1 / 33000) m (errE p v) (errE p (swI W H r m v)) ∧ OkI W H r v m
  | 0, _ => by
    have z : ((0 : Nat) : Rat) = 0 := rfl
    exact ⟨fun i hi => ⟨(hD i hi).1, (hD i hi).2.mono (by rw [z]; grind)⟩, fun i => rfl, fun j hj => by omega⟩
  | m + 1, hb => by
    have n0 : (0 : Rat) ≤ ((W * H : Nat) : Rat) := Rat.natCast_nonneg
    have em : ((m + 1 : Nat) : Rat) = (m : Rat) + 1 := by simp
    rw [em] at hb
    obtain ⟨a1, a2, a3⟩ := SwIn.many hD m (by grind)
    obtain ⟨b1, b2, b3, b4⟩ := I.full a1 (by grind)
    rw [em]
    exact ⟨fun i hi => ⟨(b1 i hi).1, (b1 i hi).2.mono (by grind)⟩, ⟨_, a2, b2⟩, fun j hj => by
      by_cases e : j = m
      · subst e; exact ⟨b3, b4⟩
      · exact a3 j (by omega)⟩
end

/-- What differs after blocks of six sweeps. -/
theorem osc_many {W H : Nat} (G : Gd W H) {ν a : Rat} (hν : 0 ≤ ν) {e : Nat → Rat} {lo hi : Rat} (hE : ∀ j, j < W * H → lo ≤ e j ∧ e j ≤ hi) (hlh : lo ≤ hi) (ha : hi - lo ≤ a) : ∀ q {f : Nat → Rat}, SwI W H ν (6 * q) e f → ∃ lo' hi', (∀ i, i < W * H → lo' ≤ f i ∧ f i ≤ hi') ∧ lo' ≤ hi' ∧ hi' - lo' ≤ (27 / 100 : Rat) ^ q * a + 36 * ν
  | 0, f, g => ⟨lo, hi, fun i hi' => by rw [g i]; exact hE i hi', hlh, by rw [Rat.pow_zero]; grind⟩
  | q + 1, f, g => by
    obtain ⟨t, g1, g2⟩ := SwI.split 6 (6 * q) g
    obtain ⟨l1, h1, b1, o1, d1⟩ := osc_many G hν hE hlh ha q g1
    have n16 : 16 ≤ W * H := Nat.mul_le_mul (m₁ := 4) (n₁ := 4) G.1.1 G.2.1
    have e1 : ν = ((1024 : Nat) : Rat) * (ν / 1024) := by
      have e : ((1024 : Nat) : Rat) = 1024 := rfl
      rw [e]; grind
    rw [e1] at g2
    obtain ⟨l2, h2, b2, d2⟩ := (certs G).use (μ := ν / 1024) (by grind) g2 b1 o1
    have s1 : ((16777216 : Nat) : Rat) = 16777216 := rfl
    have s2 : ((12247500 : Nat) : Rat) = 12247500 := rfl
    have s3 : ((13312 : Nat) : Rat) = 13312 := rfl
    rw [s1, s2, s3] at d2
    have o2 : l2 ≤ h2 := by
      have := b2 0 (by omega)
      grind
    refine ⟨l2, h2, b2, o2, ?_⟩
    rw [Rat.pow_succ]
    generalize (27 / 100 : Rat) ^ q = w at *
    grind
end Go.Proofs.Ytmlocjcfcmifdaa
