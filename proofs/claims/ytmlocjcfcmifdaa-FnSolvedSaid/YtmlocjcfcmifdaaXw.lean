/- Plain: all that FnSolved is told of a field of small integers. No program. -/
import Derived.Test.YtmlocjcfcmifdaaXs
namespace Go.Proofs.Ytmlocjcfcmifdaa
open Ieee
set_option linter.unusedVariables false

/-! ### Sums of products -/
def dT (a b : Nat → Nat) (i : Nat) : Nat := sM (a i) (b i)
def dD (a b : Nat → Nat) : Nat → Nat
  | 0 => 0
  | k + 1 => sA (dD a b k) (dT a b k)
theorem dot_near {n : Nat} {a b : Nat → Nat} {R Q : Rat} {Et Ed : Int} (ha : ∀ i, i < n → Wn (a i) R) (hb : ∀ i, i < n → Wn (b i) Q) (hR : 0 ≤ R) (hQ : 0 ≤ Q) (h1 : R * Q ≤ p2 Et) (h2 : (n : Rat) * (R * Q + ulp single Et + ulp single Ed) ≤ p2 Ed) (x1 : Ex single Et) (x2 : Ex single Ed) :
    DotW n a b (dT a b) (dD a b) ∧ Wn (dD a b n) ((n : Rat) * (R * Q + ulp single Et + ulp single Ed)) ∧ Cl (V single (dD a b n)) (rsum (fun i => V single (a i) * V single (b i)) n) ((n : Rat) * (ulp single Et + ulp single Ed)) := by
  have ut := ulp_pos single Et
  have ud := ulp_pos single Ed
  have rq : 0 ≤ R * Q := Rat.mul_nonneg hR hQ
  have T := fun i (hi : i < n) => sM_near (ha i hi) (hb i hi) Et h1 x1
  have D : ∀ k, k ≤ n → Wn (dD a b k) ((k : Rat) * (R * Q + ulp single Et + ulp single Ed)) ∧ Cl (V single (dD a b k)) (rsum (fun i => V single (a i) * V single (b i)) k) ((k : Rat) * (ulp single Et + ulp single Ed)) ∧ (∀ j, k = j + 1 → floatBits .add .f32 (dD a b j) (dT a b j) = some (dD a b k)) := by
    intro k
    induction k with
    | zero =>
      intro _
      have z : ((0 : Nat) : Rat) = 0 := rfl
      refine ⟨⟨nm0.1, by show Cl (V single 0) 0 _; rw [nm0.2, z]; unfold Cl; constructor <;> grind⟩, by show Cl (V single 0) 0 _; rw [nm0.2, z]; unfold Cl; constructor <;> grind, fun j hj => by omega⟩
    | succ k ih =>
      intro hk
      obtain ⟨w, c, _⟩ := ih (by omega)
      have ek : ((k + 1 : Nat) : Rat) = (k : Rat) + 1 := by simp
      have kn : ((k + 1 : Nat) : Rat) ≤ (n : Rat) := Rat.natCast_le_natCast.2 hk
      have kb := Rat.mul_le_mul_of_nonneg_right kn (show 0 ≤ R * Q + ulp single Et + ulp single Ed by grind)
      rw [ek] at kb
      obtain ⟨t1, t2, t3⟩ := T k (by omega)
      obtain ⟨g1, g2, g3⟩ := sA_near w t2 Ed (by grind) x2
      refine ⟨g2.mono (by rw [ek]; grind), ?_, fun j hj => ?_⟩
      · show Cl (V single (sA (dD a b k) (dT a b k))) (rsum _ k + V single (a k) * V single (b k)) _
        rw [ek]
        unfold dT
        unfold Cl at *
        constructor <;> grind
      · obtain rfl : k = j := by omega
        exact g1
  exact ⟨⟨rfl, fun i hi => (T i hi).1, fun i hi => (D (i + 1) (by omega)).2.2 i rfl⟩, (D n (Nat.le_refl _)).1, (D n (Nat.le_refl _)).2.1⟩

/-! ### The energy -/
/-- What the potential less its mean does to what is given, in numbers. -/
theorem energy_real {W H : Nat} (G : Gd W H) {r v o : Nat → Nat} {p : Nat → Rat} {σ m l h P : Rat} (I : Rhs W H r p σ) (hp : ∀ i, i < W * H → Cl (p i) 0 P) (hP : 0 ≤ P) (he : ∀ i, i < W * H → l ≤ V single (v i) - p i ∧ V single (v i) - p i ≤ h) (hlh : h - l ≤ 1 / 850) (hm1 : -P + l - 1 / 5500 ≤ m) (hm2 : m ≤ P + h + 1 / 5500) (ho : ∀ i, i < W * H → Cl (V single (o i)) (V single (v i) - m) (1 / 131072)) :
    rsum (fun i => lapR W H p i * lapR W H p i) (W * H) / 16 - ((W * H : Nat) : Rat) * (7 / 1000000 + P / 90000) ≤ rsum (fun i => V single (r i) * V single (o i)) (W * H) := by
  have hW : 0 < W := by have := G.1; omega
  have hH : 0 < H := by have := G.2; omega
  have ps := psd hW hH p
  have bs := I.bs
  have n0 : (0 : Rat) ≤ ((W * H : Nat) : Rat) := Rat.natCast_nonneg
  -- one corner
  have t : ∀ i, i < W * H → lapR W H p i * lapR W H p i / 16 - (6 / 1000000 + P / 190000) + (l - m) * V single (r i) + (p i * lapR W H p i - lapR W H p i * lapR W H p i / 8) ≤ V single (r i) * V single (o i) := fun i hi => by
    have e := I.eq i hi
    have e1 := he i hi
    have o1 := ho i hi
    have b1 := hp i hi
    obtain ⟨η, hη⟩ : ∃ η, V single (o i) = p i + l - m + η := ⟨V single (o i) - p i - l + m, by grind⟩
    have bη : Cl η 0 (1 / 840) := by unfold Cl at *; constructor <;> grind
    have a : V single (r i) = lapR W H p i + σ := by grind
    rw [hη, a]
    generalize lapR W H p i = L at *
    have s1 := bself_sq L (-8 * η)
    have p1 := bs.prod bη
    have p2' := bs.prod b1
    have p3 := bη.prod bη
    unfold Cl at *
    grind
  have s := rsum_le (W * H) t
  have ex : rsum (fun i => lapR W H p i * lapR W H p i / 16 - (6 / 1000000 + P / 190000) + (l - m) * V single (r i) + (p i * lapR W H p i - lapR W H p i * lapR W H p i / 8)) (W * H) = rsum (fun i => lapR W H p i * lapR W H p i) (W * H) / 16 - ((W * H : Nat) : Rat) * (6 / 1000000 + P / 190000) + (l - m) * rsum (fun i => V single (r i)) (W * H) + (rsum (fun i => p i * lapR W H p i) (W * H) - rsum (fun i => lapR W H p i * lapR W H p i) (W * H) / 8) := by
    generalize W * H = n
    clear s t ps
    induction n with
    | zero =>
      have z : ((0 : Nat) : Rat) = 0 := rfl
      rw [z]; unfold rsum; grind
    | succ n ih =>
      have en : ((n + 1 : Nat) : Rat) = (n : Rat) + 1 := by simp
      rw [en]
      unfold rsum
      rw [ih]; grind
  rw [ex] at s
  have hs : Cl (rsum (fun i => V single (r i)) (W * H)) 0 (((W * H : Nat) : Rat) * (1 / 200000)) := by
    rw [← I.hs]
    have q := bs.prod (show Cl ((W * H : Nat) : Rat) 0 ((W * H : Nat) : Rat) by unfold Cl; constructor <;> grind)
    exact q.mono (by grind)
  have lm : Cl (l - m) 0 (P + 1 / 700) := by unfold Cl; constructor <;> grind
  have pr := lm.prod hs
  have np : 0 ≤ ((W * H : Nat) : Rat) * P := Rat.mul_nonneg n0 hP
  have e1 : (P + 1 / 700) * (((W * H : Nat) : Rat) * (1 / 200000)) = ((W * H : Nat) : Rat) * P / 200000 + ((W * H : Nat) : Rat) / 140000000 := by grind
  have e2 : ((W * H : Nat) : Rat) * (6 / 1000000 + P / 190000) = ((W * H : Nat) : Rat) * (6 / 1000000) + ((W * H : Nat) : Rat) * P / 190000 := by grind
  have e3 : ((W * H : Nat) : Rat) * (7 / 1000000 + P / 90000) = ((W * H : Nat) : Rat) * (7 / 1000000) + ((W * H : Nat) : Rat) * P / 90000 := by grind
  rw [e1] at pr
  rw [e2] at s
  rw [e3]
  generalize ((W * H : Nat) : Rat) * P = nP at *
  generalize ((W * H : Nat) : Rat) = n at *
  generalize (l - m) * rsum (fun i => V single (r i)) (W * H) = x at *
  unfold Cl at pr
  clear ex hs lm t
  grind

/-- The energy by words, where what is given is no greater than R. -/
theorem energy_case {W H : Nat} (G : Gd W H) {r v o : Nat → Nat} {p : Nat → Rat} {σ m l h R : Rat} (I : Rhs W H r p σ) (he : ∀ i, i < W * H → l ≤ V single (v i) - p i ∧ V single (v i) - p i ≤ h) (hlh : h - l ≤ 1 / 850) (ho : ∀ i, i < W * H → Nm single (o i) ∧ Cl (V single (o i)) (V single (v i) - m) (1 / 131072))
    (hl : ∀ lo hi : Rat, (∀ i, i < W * H → lo ≤ V single (v i) ∧ V single (v i) ≤ hi) → lo - 1 / 5500 ≤ m ∧ m ≤ hi + 1 / 5500 ∧ ∀ i, i < W * H → Wn (o i) (hi - lo + 1 / 5000)) (hR : 0 ≤ R) (hr : ∀ i, i < W * H → Wn (r i) R) {Et Ed : Int} (h1 : R * (7 / 2 * R + 1 / 700) ≤ p2 Et) (h2 : 42 * (R * (7 / 2 * R + 1 / 700) + ulp single Et + ulp single Ed) ≤ p2 Ed) (x1 : Ex single Et) (x2 : Ex single Ed) :
    DotW (W * H) r o (dT r o) (dD r o) ∧ Wn (dD r o (W * H)) (42 * (R * (7 / 2 * R + 1 / 700) + ulp single Et + ulp single Ed)) ∧ rsum (fun i => lapR W H p i * lapR W H p i) (W * H) / 16 - 42 * (7 / 1000000 + R / 51000) - 42 * (ulp single Et + ulp single Ed) ≤ V single (dD r o (W * H)) := by
  obtain ⟨_, _, n42, n16⟩ := n_le G
  have ut := ulp_pos single Et
  have ud := ulp_pos single Ed
  have hp := fun i hi => I.bp R hR (fun j hj => (hr j hj).bd) i hi
  obtain ⟨m1, m2, wo⟩ := hl (-(7 / 4 * R) + l) (7 / 4 * R + h) (fun i hi => by
    have a := hp i hi
    have b := he i hi
    unfold Cl at a
    constructor <;> grind)
  have wo' : ∀ i, i < W * H → Wn (o i) (7 / 2 * R + 1 / 700) := fun i hi => (wo i hi).mono (by grind)
  have rq : 0 ≤ R * (7 / 2 * R + 1 / 700) := Rat.mul_nonneg hR (by grind)
  have nb : ((W * H : Nat) : Rat) * (R * (7 / 2 * R + 1 / 700) + ulp single Et + ulp single Ed) ≤ 42 * (R * (7 / 2 * R + 1 / 700) + ulp single Et + ulp single Ed) := Rat.mul_le_mul_of_nonneg_right n42 (by grind)
  obtain ⟨d1, d2, d3⟩ := dot_near (n := W * H) hr wo' hR (by grind) h1 (Rat.le_trans nb h2) x1 x2
  have e := energy_real G I hp (by grind) he hlh (by grind) (by grind) (fun i hi => (ho i hi).2)
  have c1 : ((W * H : Nat) : Rat) * (7 / 1000000 + 7 / 4 * R / 90000) ≤ 42 * (7 / 1000000 + 7 / 4 * R / 90000) := Rat.mul_le_mul_of_nonneg_right n42 (by grind)
  have c2 : ((W * H : Nat) : Rat) * (ulp single Et + ulp single Ed) ≤ 42 * (ulp single Et + ulp single Ed) := Rat.mul_le_mul_of_nonneg_right n42 (by grind)
  refine ⟨d1, d2.mono nb, ?_⟩
  unfold Cl at d3
  grind
theorem energy_any {W H : Nat} (G : Gd W H) {r v o : Nat → Nat} {p : Nat → Rat} {σ m l h : Rat} (I : Rhs W H r p σ) (he : ∀ i, i < W * H → l ≤ V single (v i) - p i ∧ V single (v i) - p i ≤ h) (hlh : h - l ≤ 1 / 850) (ho : ∀ i, i < W * H → Nm single (o i) ∧ Cl (V single (o i)) (V single (v i) - m) (1 / 131072))
    (hl : ∀ lo hi : Rat, (∀ i, i < W * H → lo ≤ V single (v i) ∧ V single (v i) ≤ hi) → lo - 1 / 5500 ≤ m ∧ m ≤ hi + 1 / 5500 ∧ ∀ i, i < W * H → Wn (o i) (hi - lo + 1 / 5000)) :
    DotW (W * H) r o (dT r o) (dD r o) ∧ Wn (dD r o (W * H)) 15000 ∧ -(1 / 100) ≤ V single (dD r o (W * H)) := by
  have p9 : p2 9 = 512 := by decide +kernel
  have p14 : p2 14 = 16384 := by decide +kernel
  have u9 : ulp single 9 = 1 / 32768 := by decide +kernel
  have u14 : ulp single 14 = 1 / 1024 := by decide +kernel
  have p4 : p2 4 = 16 := by decide +kernel
  have p10 : p2 10 = 1024 := by decide +kernel
  have u4 : ulp single 4 = 1 / 1048576 := by decide +kernel
  have u10 : ulp single 10 = 1 / 16384 := by decide +kernel
  have pm2 : p2 (-2) = 1 / 4 := by decide +kernel
  have p3 : p2 3 = 8 := by decide +kernel
  have um2 : ulp single (-2) = 1 / 67108864 := by decide +kernel
  have u3 : ulp single 3 = 1 / 2097152 := by decide +kernel
  have sq0 : ∀ j, j < W * H → 0 ≤ lapR W H p j * lapR W H p j := fun j _ => by have := bself_sq (lapR W H p j) 0; grind
  have S0 := rsum_nonneg (W * H) sq0
  have bs := I.bs
  have big : ∀ (t : Rat), 0 < t → (∃ i, i < W * H ∧ (t < V single (r i) ∨ V single (r i) < -t)) → (t - 1 / 200000) * (t - 1 / 200000) ≤ rsum (fun i => lapR W H p i * lapR W H p i) (W * H) ∨ t ≤ 1 / 200000 := by
    rintro t ht ⟨i, hi, hv⟩
    rcases Rat.le_total (a := t) (b := 1 / 200000) with h0 | h0
    · exact .inr h0
    · left
      have a := rsum_ge sq0 hi
      have e := I.eq i hi
      refine Rat.le_trans ?_ a
      unfold Cl at bs
      rcases hv with hv | hv
      · have k1 : t - 1 / 200000 ≤ lapR W H p i := by grind
        exact sq_mono (by grind) k1
      · have k1 : t - 1 / 200000 ≤ -lapR W H p i := by grind
        have k2 := sq_mono (by grind) k1
        grind
  by_cases hA : ∃ i, i < W * H ∧ (2 < V single (r i) ∨ V single (r i) < -2)
  · have s := big 2 (by grind) hA
    obtain ⟨d1, d2, d3⟩ := energy_case G I he hlh ho hl (R := 1003 / 100) (Et := 9) (Ed := 14) (by grind) I.wr (by rw [p9]; grind) (by rw [p14, u9, u14]; grind) (ex_single (by decide) (by decide)) (ex_single (by decide) (by decide))
    rw [u9, u14] at d2 d3
    exact ⟨d1, d2.mono (by grind), by grind⟩
  · have r2 : ∀ i, i < W * H → Wn (r i) 2 := fun i hi => ⟨(I.wr i hi).nm, by
      have n1 : ¬ (2 < V single (r i)) := fun h => hA ⟨i, hi, .inl h⟩
      have n2 : ¬ (V single (r i) < -2) := fun h => hA ⟨i, hi, .inr h⟩
      unfold Cl; constructor <;> grind⟩
    by_cases hB : ∃ i, i < W * H ∧ (1 / 5 < V single (r i) ∨ V single (r i) < -(1 / 5))
    · have s := big (1 / 5) (by grind) hB
      obtain ⟨d1, d2, d3⟩ := energy_case G I he hlh ho hl (R := 2) (Et := 4) (Ed := 10) (by grind) r2 (by rw [p4]; grind) (by rw [p10, u4, u10]; grind) (ex_single (by decide) (by decide)) (ex_single (by decide) (by decide))
      rw [u4, u10] at d2 d3
      exact ⟨d1, d2.mono (by grind), by grind⟩
    · have r5 : ∀ i, i < W * H → Wn (r i) (1 / 5) := fun i hi => ⟨(I.wr i hi).nm, by
        have n1 : ¬ (1 / 5 < V single (r i)) := fun h => hB ⟨i, hi, .inl h⟩
        have n2 : ¬ (V single (r i) < -(1 / 5)) := fun h => hB ⟨i, hi, .inr h⟩
        unfold Cl; constructor <;> grind⟩
      obtain ⟨d1, d2, d3⟩ := energy_case G I he hlh ho hl (R := 1 / 5) (Et := -2) (Ed := 3) (by grind) r5 (by rw [pm2]; grind) (by rw [p3, um2, u3]; grind) (ex_single (by decide) (by decide)) (ex_single (by decide) (by decide))
      rw [um2, u3] at d2 d3
      exact ⟨d1, d2.mono (by grind), by grind⟩

/-! ### All of it -/
theorem c005 : Nm single 1028443341 ∧ 49 / 1000 ≤ V single 1028443341 := ⟨⟨_, _, _, rfl⟩, by decide +kernel⟩
theorem cm001 : Nm single 3156465418 ∧ V single 3156465418 ≤ -(99 / 10000) := ⟨⟨_, _, _, rfl⟩, by decide +kernel⟩
theorem c05 : Nm single 1056964608 ∧ V single 1056964608 = 1 / 2 := ⟨⟨_, _, _, rfl⟩, by decide +kernel⟩
theorem d0 : Nm double 0 ∧ V double 0 = 0 := ⟨⟨_, _, _, rfl⟩, by decide +kernel⟩

/-- A second time less the mean: nearly the same. -/
theorem again_any {W H : Nat} (G : Gd W H) {r : Nat → Nat} (wr : ∀ i, i < W * H → Wn (r i) (1003 / 100)) (hs : Cl (rsum (fun i => V single (r i)) (W * H)) 0 (((W * H : Nat) : Rat) * (1 / 200000))) (f : Nat → Int) (hf : SmI f (W * H) 5) :
    ∃ m r4, MeanW (W * H) r (mS r) m r4 ∧ (∀ c, OkS W H c r4 (fun i => iw (f i))) ∧ ∀ c i, i < W * H → Nm single (swS W H c r4 (W * H) (fun i => iw (f i)) i) := by
  obtain ⟨n16, n42, nr, nr16⟩ := n_le G
  have q9 : p2 9 = 512 := by decide +kernel
  have q5 : p2 5 = 32 := by decide +kernel
  have u9 : ulp single 9 = 1 / 32768 := by decide +kernel
  have u7 : ulp single (5 + 2) = 1 / 131072 := by decide +kernel
  have u5 : ulp single 5 = 1 / 524288 := by decide +kernel
  obtain ⟨m, r4, M, cS, wm, cm, wo⟩ := mean_any (n := W * H) (a := r) (B := 1003 / 100) (E := 9) (F := 5) (by omega) (by omega) wr (by grind) (by rw [q9]; grind) (by rw [u9]; grind) (by decide) (by decide) (by rw [q5]; grind) (by rw [u7]; grind) (by decide) (by decide)
  have c1 := (cS (W * H) (Nat.le_refl _)).2
  rw [u9] at c1
  rw [u7] at cm
  have n0 : (0 : Rat) < ((W * H : Nat) : Rat) := by grind
  have bm : Cl (V single m) 0 (1 / 20000) := cl_of_mul n0 (by unfold Cl at *; constructor <;> grind)
  have w4 : ∀ i, i < W * H → Wn (r4 i) (10031 / 1000) := fun i hi => ⟨(wo i hi).1.nm, by
    have a := (wo i hi).2
    rw [u5] at a
    have b := (wr i hi).bd
    unfold Cl at *
    constructor <;> grind⟩
  obtain ⟨p, σ, e1, e2, e3⟩ := pot_any G r4
  have s := rsum_near (W * H) (fun i hi => (wo i hi).2)
  rw [rsum_sub_const, u5] at s
  have bσ : Cl σ 0 (1 / 20000) := cl_of_mul n0 (by rw [e2]; unfold Cl at *; constructor <;> grind)
  have I : SwIn W H r4 p (176 / 10) := ⟨fun i hi => (w4 i hi).mono (by grind), ⟨σ, bσ, e1⟩, fun i hi => (e3 (10031 / 1000) (by grind) (fun j hj => (w4 j hj).bd) i hi).mono (by grind)⟩
  have D0 : Dst W H p (fun i => iw (f i)) (226 / 10) := fun i hi => by
    have w := (wn_iw (f i) 5 (hf i hi) (by omega)).1
    have e5 : ((5 : Nat) : Rat) = 5 := rfl
    have b := w.bd
    rw [e5] at b
    have q := I.bp i hi
    exact ⟨w.nm, by unfold Cl at *; constructor <;> grind⟩
  exact ⟨m, r4, M, fun c => (I.half c D0 (by grind) (W * H) (Nat.le_refl _)).2.2, fun c i hi => ((I.half c D0 (by grind) (W * H) (Nat.le_refl _)).1 i hi).1⟩

/-- All that FnSolved is told of a field of small integers. -/
structure SolvedT (W H : Nat) (f : Nat → Int) (m : Nat) (r : Nat → Nat) (m2 : Nat) (o q y M : Nat → Nat) (m3 Mm Gp en m4 : Nat) (r4 : Nat → Nat) : Prop where
  a1 : MeanW (W * H) (fun i => iw (f i)) (mS fun i => iw (f i)) m r
  a2 : OkI W H r (fun _ => 0) 60
  a3 : MeanW (W * H) (swI W H r 60 (fun _ => 0)) (mS (swI W H r 60 (fun _ => 0))) m2 o
  a4 : LapW W H o (lapA W H o)
  a5 : ∀ i, i < W * H → floatBits .sub .f32 (r i) (lapA W H o i 4) = some (q i)
  a6 : ResW (W * H) q y M
  a7 : single.order (M (W * H)) 1028443341 = some .lt
  a8 : ∀ i, i < W * H → floatBits .add .f32 (mS o i) (o i) = some (mS o (i + 1))
  a9 : floatBits .quo .f32 (mS o (W * H)) (floatOfInt .f32 ((W * H : Nat) : Int)) = some m3
  b1 : W64 m3 Mm
  b2 : GapD Mm 0 Gp
  b3 : Sm100 Gp
  b4 : DotW (W * H) r o (dT r o) (dD r o)
  b5 : floatBits .mul .f32 1056964608 (dD r o (W * H)) = some en
  b6 : (single.order en 3156465418 == some .lt) = false
  b7 : MeanW (W * H) r (mS r) m4 r4
  b8 : ∀ c, OkS W H c r4 (fun i => iw (f i))
  b9 : ∀ c i, i < W * H → Nm single (swS W H c r4 (W * H) (fun i => iw (f i)) i)

theorem solved_any {W H : Nat} (G : Gd W H) (f : Nat → Int) (hf : SmI f (W * H) 5) : ∃ m r m2 o q y M m3 Mm Gp en m4 r4, SolvedT W H f m r m2 o q y M m3 Mm Gp en m4 r4 := by
  obtain ⟨n16, n42, nr, nr16⟩ := n_le G
  have n0 : (0 : Rat) < ((W * H : Nat) : Rat) := by grind
  have hS : Sd W H := ⟨⟨G.1.1, by have := G.1.2; omega⟩, G.2.1, by have := G.2.2; omega⟩
  obtain ⟨m, r, A1, wr, hs⟩ := right_any (n := W * H) (by omega) n42 f hf
  obtain ⟨p, σ, I⟩ := rhs_any G wr hs
  obtain ⟨A2, wv, l, h, he, lh, hlh⟩ := sixty G I
  obtain ⟨m2, o, A3, ho, so, hl⟩ := less_any (n := W * H) (by omega) n42 wv
  -- how great they are
  have hp := fun i hi => I.bp (1003 / 100) (by grind) (fun j hj => (wr j hj).bd) i hi
  obtain ⟨_, _, wo⟩ := hl (-(7 / 4 * (1003 / 100)) + l) (7 / 4 * (1003 / 100) + h) (fun i hi => by
    have a := hp i hi
    have b := he i hi
    unfold Cl at a
    constructor <;> grind)
  have wo' : ∀ i, i < W * H → Wn (o i) 36 := fun i hi => (wo i hi).mono (by grind)
  -- what is missing
  have q9 : p2 9 = 512 := by decide +kernel
  have u9 : ulp single 9 = 1 / 32768 := by decide +kernel
  obtain ⟨A4, lk⟩ := lap_k hS (E := 9) wo' (by rw [q9]; grind) (by rw [u9]; grind) (by decide) (by decide)
  have near : ∀ k, k < W * H → Cl (V single (r k)) (V single (lapA W H o k 4)) (1 / 200) := fun k hk => by
    obtain ⟨b1, b2, b3, b4⟩ := nb_lt hk
    have c := (lk k hk).2
    rw [u9] at c
    have e := I.eq k hk
    have bs := I.bs
    unfold lapR at c e
    have o0 := (ho k hk).2
    have o1 := (ho _ b1).2
    have o2 := (ho _ b2).2
    have o3 := (ho _ b3).2
    have o4 := (ho _ b4).2
    have e0 := he k hk
    have e1 := he _ b1
    have e2 := he _ b2
    have e3 := he _ b3
    have e4 := he _ b4
    unfold Cl at *
    constructor <;> grind
  have p5 : p2 5 = 32 := by decide +kernel
  have u5 : ulp single 5 = 1 / 524288 := by decide +kernel
  have sq : ∀ i, i < W * H → floatBits .sub .f32 (r i) (lapA W H o i 4) = some (sS (r i) (lapA W H o i 4)) ∧ Wn (sS (r i) (lapA W H o i 4)) (1 / 195) := fun i hi => by
    have b := near i hi
    have wl : Wn (lapA W H o i 4) (101 / 10) := ⟨(lk i hi).1, by
      have a := (wr i hi).bd
      unfold Cl at *
      constructor <;> grind⟩
    obtain ⟨x1, x2, x3⟩ := sS_near (wr i hi) wl 5 (by rw [p5]; grind) (ex_single (by decide) (by decide))
    rw [u5] at x3
    exact ⟨x1, x2.nm, by unfold Cl at *; constructor <;> grind⟩
  have pm7 : p2 (-7) = 1 / 128 := by decide +kernel
  have um7 : ulp single (-7) = 1 / 2147483648 := by decide +kernel
  obtain ⟨y, M, A6, wM⟩ := res_any (n := W * H) (q := fun i => sS (r i) (lapA W H o i 4)) (fun i hi => (sq i hi).2) (by grind) (-7) (by rw [pm7]; grind) (ex_single (by decide) (by decide))
  rw [um7] at wM
  have A7 : single.order (M (W * H)) 1028443341 = some .lt := by
    obtain ⟨nc, vc⟩ := c005
    rw [order_V wM.nm nc, if_pos]
    have := wM.bd
    unfold Cl at this
    grind
  -- the mean
  have q11 : p2 11 = 2048 := by decide +kernel
  have q7 : p2 7 = 128 := by decide +kernel
  have u11 : ulp single 11 = 1 / 8192 := by decide +kernel
  have u72 : ulp single (7 + 2) = 1 / 32768 := by decide +kernel
  obtain ⟨m3, o3, M3, cS, wm3, cm3, _⟩ := mean_any (n := W * H) (a := o) (B := 36) (E := 11) (F := 7) (by omega) (by omega) wo' (by grind) (by rw [q11]; grind) (by rw [u11]; grind) (by decide) (by decide) (by rw [q7]; grind) (by rw [u72]; grind) (by decide) (by decide)
  have c1 := (cS (W * H) (Nat.le_refl _)).2
  rw [u11] at c1
  rw [u72] at cm3
  have bm3 : Cl (V single m3) 0 (9 / 1000) := cl_of_mul n0 (by unfold Cl at *; constructor <;> grind)
  obtain ⟨Mm, B1, nMm, vMm⟩ := widen_V wm3.nm
  obtain ⟨Gp, B2, B3⟩ := small_gap nMm d0.1 (by rw [vMm, d0.2]; exact bm3)
  -- the energy
  obtain ⟨B4, wD, lD⟩ := energy_any G I he hlh ho hl
  have p13 : p2 13 = 8192 := by decide +kernel
  have u13 : ulp single 13 = 1 / 2048 := by decide +kernel
  have w05 : Wn 1056964608 (1 / 2) := ⟨c05.1, by rw [c05.2]; unfold Cl; constructor <;> grind⟩
  obtain ⟨B5, wen, ven⟩ := sM_near w05 wD 13 (by rw [p13]; grind) (ex_single (by decide) (by decide))
  rw [u13, c05.2] at ven
  have B6 : (single.order (sM 1056964608 (dD r o (W * H))) 3156465418 == some .lt) = false := by
    obtain ⟨nc, vc⟩ := cm001
    rw [V_lt wen.nm nc, decide_eq_false]
    unfold Cl at ven
    grind
  obtain ⟨m4, r4, B7, B8, B9⟩ := again_any G wr hs f hf
  exact ⟨m, r, m2, o, _, y, M, m3, Mm, Gp, _, m4, r4, A1, A2, A3, A4, fun i hi => (sq i hi).1, A6, A7, M3.fs, M3.fm, B1, B2, B3, B4, B5, B6, B7, B8, B9⟩

/-- A field that is the same everywhere. -/
theorem flat_any {W H : Nat} : LapW W H (fun _ => 1077936128) (fun _ j => if j = 0 then 1094713344 else if j = 1 then 1091567616 else if j = 2 then 1086324736 else if j = 3 then 1077936128 else 0) := by
  intro x y hx hy
  have h1 : floatBits .mul .f32 1082130432 1077936128 = some 1094713344 := by decide +kernel
  have h2 : floatBits .sub .f32 1094713344 1077936128 = some 1091567616 := by decide +kernel
  have h3 : floatBits .sub .f32 1091567616 1077936128 = some 1086324736 := by decide +kernel
  have h4 : floatBits .sub .f32 1086324736 1077936128 = some 1077936128 := by decide +kernel
  have h5 : floatBits .sub .f32 1077936128 1077936128 = some 0 := by decide +kernel
  exact ⟨h1, h2, h3, h4, h5⟩
end Go.Proofs.Ytmlocjcfcmifdaa
