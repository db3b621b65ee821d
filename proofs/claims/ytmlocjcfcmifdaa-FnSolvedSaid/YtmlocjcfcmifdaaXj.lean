/- Plain: a row less its mean; all rows solved one after another: what that leaves in the last row. No program. -/
import Derived.Test.YtmlocjcfcmifdaaXi
import Derived.Test.YtmlocjcfcmifdaaXh
namespace Go.Proofs.Ytmlocjcfcmifdaa
open Ieee
set_option linter.unusedVariables false

/-- The sum of the first numbers. -/
def rsum (f : Nat → Rat) : Nat → Rat
  | 0 => 0
  | k + 1 => rsum f k + f k
def mS (a : Nat → Nat) : Nat → Nat
  | 0 => 0
  | k + 1 => sA (mS a k) (a k)
theorem v_nat (n : Nat) (hn : n < 16777216) : Nm single (floatOfInt .f32 (n : Int)) ∧ V single (floatOfInt .f32 (n : Int)) = (n : Rat) := by
  obtain ⟨h1, h2⟩ := V_wd (f := single) fit_single 0 (n : Int) (by decide) (by show (n : Int).natAbs < 16777216; omega)
  have e : floatOfInt .f32 (n : Int) = wd single 0 (n : Int) := rfl
  rw [e]
  refine ⟨h1, ?_⟩
  rw [h2]
  have e0 : p2 (-((0 : Nat) : Int)) = 1 := by decide +kernel
  rw [e0]
  have e1 : ((n : Int) : Rat) = (n : Rat) := rfl
  rw [e1]; grind
theorem mean_any {n : Nat} {a : Nat → Nat} {B : Rat} {E F : Int} (hn0 : 1 ≤ n) (hn : n ≤ 256) (ha : ∀ i, i < n → Wn (a i) B) (hB : 1 ≤ B) (h1 : (n : Rat) * (B + 1) ≤ p2 E) (hu : ulp single E ≤ 1 / 100) (e0 : -100 ≤ E) (e1 : E ≤ 100) (h2 : 2 * B + 2 ≤ p2 F) (hF : ulp single (F + 2) ≤ 1 / 100) (f0 : -100 ≤ F) (f1 : F ≤ 100) :
    ∃ m o, MeanW n a (mS a) m o ∧ (∀ i, i ≤ n → Wn (mS a i) ((i : Rat) * (B + ulp single E)) ∧ Cl (V single (mS a i)) (rsum (fun j => V single (a j)) i) ((i : Rat) * ulp single E)) ∧ Wn m (B + 1 / 50) ∧ Cl (V single m * (n : Rat)) (V single (mS a n)) (ulp single (F + 2) * (n : Rat)) ∧ (∀ i, i < n → Wn (o i) (2 * B + 3 / 100) ∧ Cl (V single (o i)) (V single (a i) - V single m) (ulp single F)) := by
  have u0 := ulp_pos single E
  have uF := ulp_pos single F
  have xE : Ex single E := ex_single (by omega) (by omega)
  have xF : Ex single F := ex_single (by omega) (by omega)
  have xF1 : Ex single (F + 1) := ex_single (by omega) (by omega)
  have n0 : (0 : Rat) < (n : Rat) := Rat.natCast_pos.2 (by omega)
  have n1 : (1 : Rat) ≤ (n : Rat) := by have := Rat.natCast_le_natCast.2 hn0; simpa using this
  have S : ∀ i, i ≤ n → Wn (mS a i) ((i : Rat) * (B + ulp single E)) ∧ Cl (V single (mS a i)) (rsum (fun j => V single (a j)) i) ((i : Rat) * ulp single E) ∧ (∀ j, i = j + 1 → floatBits .add .f32 (mS a j) (a j) = some (mS a i)) := by
    intro i
    induction i with
    | zero =>
      intro _
      have z : ((0 : Nat) : Rat) = 0 := rfl
      refine ⟨⟨nm0.1, by show Cl (V single 0) 0 _; rw [nm0.2, z]; unfold Cl; constructor <;> grind⟩, by show Cl (V single 0) 0 _; rw [nm0.2, z]; unfold Cl; constructor <;> grind, fun j hj => by omega⟩
    | succ i ih =>
      intro hi
      obtain ⟨w, c, _⟩ := ih (by omega)
      have wa := ha i (by omega)
      have ei : ((i + 1 : Nat) : Rat) = (i : Rat) + 1 := by simp
      have ile : ((i : Rat) + 1) * (B + 1) ≤ (n : Rat) * (B + 1) := by
        have : ((i + 1 : Nat) : Rat) ≤ (n : Rat) := Rat.natCast_le_natCast.2 hi
        rw [ei] at this
        exact Rat.mul_le_mul_of_nonneg_right this (by grind)
      have i0 : (0 : Rat) ≤ (i : Rat) := Rat.natCast_nonneg
      have iu : (i : Rat) * ulp single E ≤ (i : Rat) * 1 := Rat.mul_le_mul_of_nonneg_left (by grind) i0
      obtain ⟨g1, g2, g3⟩ := sA_near w wa E (by grind) xE
      refine ⟨g2.mono (by rw [ei]; grind), ?_, fun j hj => ?_⟩
      · show Cl (V single (sA (mS a i) (a i))) (rsum _ i + V single (a i)) _
        rw [ei]
        unfold Cl at *
        constructor <;> grind
      · obtain rfl : i = j := by omega
        exact g1
  obtain ⟨nn, vn⟩ := v_nat n (by omega)
  obtain ⟨wS, cS, _⟩ := S n (Nat.le_refl _)
  obtain ⟨d1, d2, d3⟩ := sD_near wS.nm nn (n : Rat) n0 (by rw [vn]; exact Rat.le_refl) (B + ulp single E) (by grind) (wS.bd.mono (by grind)) F (by grind) xF1
  rw [vn] at d3
  have wm : Wn (sD (mS a n) (floatOfInt .f32 (n : Int))) (B + 1 / 50) := d2.mono (by grind)
  have O := fun i (hi : i < n) => sS_near (ha i hi) wm F (by grind) xF
  have uF2 : ulp single F ≤ ulp single (F + 2) := p2_le (by show F - _ - 1 ≤ F + 2 - _ - 1; omega)
  exact ⟨_, fun i => sS (a i) (sD (mS a n) (floatOfInt .f32 (n : Int))), ⟨rfl, fun i hi => (S (i + 1) (by omega)).2.2 i rfl, d1, fun i hi => (O i hi).1⟩, fun i hi => ⟨(S i hi).1, (S i hi).2.1⟩, wm, d3, fun i hi => ⟨(O i hi).2.1.mono (by grind), (O i hi).2.2⟩⟩

open Classical in
/-- What solves equations around a ring. -/
noncomputable def ringX (n : Nat) (r : Nat → Nat) : Nat → Nat :=
  if h : ∃ x : Nat → Nat, (∃ p q t1 t2 t3 t4 t5 f z, RingW n r p q t1 t2 t3 t4 t5 f z x) ∧ (∀ k, k < n → Nm single (x k)) ∧ (∀ k, k < n → Cl (4 * V single (x k) - V single (x (pv n k)) - V single (x (nx n k))) (V single (r k)) (1 / 250)) then Classical.choose h else fun _ => 0
theorem ringX_ok {n : Nat} (hn : 3 ≤ n) {r : Nat → Nat} (hr : ∀ k, k < n → Wn (r k) 48) : (∃ p q t1 t2 t3 t4 t5 f z, RingW n r p q t1 t2 t3 t4 t5 f z (ringX n r)) ∧ (∀ k, k < n → Nm single (ringX n r k)) ∧ (∀ k, k < n → Cl (4 * V single (ringX n r k) - V single (ringX n r (pv n k)) - V single (ringX n r (nx n k))) (V single (r k)) (1 / 250)) := by
  obtain ⟨p, q, t1, t2, t3, t4, t5, f, z, x, h1, h2, h3⟩ := ring_any hn hr
  have h : ∃ x : Nat → Nat, (∃ p q t1 t2 t3 t4 t5 f z, RingW n r p q t1 t2 t3 t4 t5 f z x) ∧ (∀ k, k < n → Nm single (x k)) ∧ (∀ k, k < n → Cl (4 * V single (x k) - V single (x (pv n k)) - V single (x (nx n k))) (V single (r k)) (1 / 250)) := ⟨x, ⟨p, q, t1, t2, t3, t4, t5, f, z, h1⟩, h2, h3⟩
  unfold ringX
  rw [dif_pos h]
  exact Classical.choose_spec h

theorem ix_up (W H x y : Nat) (hx : x < W) (hy : y < H) : ix W H x ((y : Int) - 1) = x + W * (if y = 0 then H - 1 else y - 1) := by
  by_cases h : y = 0
  · subst h
    rw [if_pos rfl]
    have e : ix W H x (((0 : Nat) : Int) - 1) = ix W H x ((H - 1 : Nat) : Int) := by
      unfold ix
      have : (((0 : Nat) : Int) - 1) % (H : Int) = ((H - 1 : Nat) : Int) % (H : Int) := by
        rw [show ((H - 1 : Nat) : Int) = ((0 : Nat) : Int) - 1 + (H : Int) by omega, Int.add_emod_right]
      rw [this]
    rw [e]
    exact ix_in W H x (H - 1) hx (by omega)
  · rw [if_neg h, show (y : Int) - 1 = ((y - 1 : Nat) : Int) by omega]
    exact ix_in W H x (y - 1) hx (by omega)
theorem ix_down (W H x y : Nat) (hx : x < W) (hy : y < H) : ix W H x ((y : Int) + 1) = x + W * (if y + 1 = H then 0 else y + 1) := by
  by_cases h : y + 1 = H
  · rw [if_pos h]
    have e : ix W H x ((y : Int) + 1) = ix W H x ((0 : Nat) : Int) := by
      unfold ix
      have : ((y : Int) + 1) % (H : Int) = ((0 : Nat) : Int) % (H : Int) := by
        rw [show (y : Int) + 1 = ((0 : Nat) : Int) + (H : Int) by omega, Int.add_emod_right]
      rw [this]
    rw [e]
    exact ix_in W H x 0 hx (by omega)
  · rw [if_neg h, show (y : Int) + 1 = ((y + 1 : Nat) : Int) by omega]
    exact ix_in W H x (y + 1) hx (by omega)
theorem ix_left (W H x y : Nat) (hx : x < W) (hy : y < H) : ix W H ((x : Int) - 1) y = pv W x + W * y := by
  by_cases h : x = 0
  · subst h
    rw [pv_zero (by omega)]
    have e : ix W H (((0 : Nat) : Int) - 1) y = ix W H ((W - 1 : Nat) : Int) y := by
      unfold ix
      have : (((0 : Nat) : Int) - 1) % (W : Int) = ((W - 1 : Nat) : Int) % (W : Int) := by
        rw [show ((W - 1 : Nat) : Int) = ((0 : Nat) : Int) - 1 + (W : Int) by omega, Int.add_emod_right]
      rw [this]
    rw [e]
    exact ix_in W H (W - 1) y (by omega) hy
  · rw [pv_pos (by omega) hx, show (x : Int) - 1 = ((x - 1 : Nat) : Int) by omega]
    exact ix_in W H (x - 1) y (by omega) hy
theorem ix_right (W H x y : Nat) (hx : x < W) (hy : y < H) : ix W H ((x : Int) + 1) y = nx W x + W * y := by
  by_cases h : x + 1 = W
  · obtain rfl : x = W - 1 := by omega
    rw [nx_last (by omega)]
    have e : ix W H (((W - 1 : Nat) : Int) + 1) y = ix W H ((0 : Nat) : Int) y := by
      unfold ix
      have : (((W - 1 : Nat) : Int) + 1) % (W : Int) = ((0 : Nat) : Int) % (W : Int) := by
        rw [show ((W - 1 : Nat) : Int) + 1 = ((0 : Nat) : Int) + (W : Int) by omega, Int.add_emod_right]
      rw [this]
    rw [e]
    exact ix_in W H 0 y (by omega) hy
  · rw [nx_in (by omega), show (x : Int) + 1 = ((x + 1 : Nat) : Int) by omega]
    exact ix_in W H (x + 1) y (by omega) hy

/-- The rows, solved one after another. -/
noncomputable def swO (W H : Nat) (v c : Nat → Nat) : Nat → Nat → Nat
  | 0 => v
  | y + 1 => fun i => if W * y ≤ i ∧ i < W * y + W then ringX W (fun x => sA (sA (c (x + W * y)) (swO W H v c y (ix W H x ((y : Int) - 1)))) (swO W H v c y (ix W H x ((y : Int) + 1)))) (i - W * y) else swO W H v c y i
noncomputable def swT (W H : Nat) (v c : Nat → Nat) (y x : Nat) : Nat := sA (c (x + W * y)) (swO W H v c y (ix W H x ((y : Int) - 1)))
noncomputable def swR (W H : Nat) (v c : Nat → Nat) (y x : Nat) : Nat := sA (swT W H v c y x) (swO W H v c y (ix W H x ((y : Int) + 1)))
theorem swO_succ (W H : Nat) (v c : Nat → Nat) (y i : Nat) : swO W H v c (y + 1) i = if W * y ≤ i ∧ i < W * y + W then ringX W (swR W H v c y) (i - W * y) else swO W H v c y i := rfl

section
variable {W H : Nat} (hW : 4 ≤ W) (hH : 4 ≤ H) {v c : Nat → Nat} (hc : ∀ i, i < W * H → Wn (c i) (1003 / 100))
include hW hH hc

theorem sw_row (y : Nat) (hy : y < H) (B : ∀ i, i < W * H → Wn (swO W H v c y i) (if i < W * y then 76 / 5 else 5)) (x : Nat) (hx : x < W) :
    (floatBits .add .f32 (c (x + W * y)) (swO W H v c y (ix W H x ((y : Int) - 1))) = some (swT W H v c y x) ∧ floatBits .add .f32 (swT W H v c y x) (swO W H v c y (ix W H x ((y : Int) + 1))) = some (swR W H v c y x)) ∧ Wn (swR W H v c y x) (if y + 1 = H then 81 / 2 else 303 / 10) ∧ Cl (V single (swR W H v c y x)) (V single (c (x + W * y)) + V single (swO W H v c y (ix W H x ((y : Int) - 1))) + V single (swO W H v c y (ix W H x ((y : Int) + 1)))) (1 / 100000) := by
  have p5 : p2 5 = 32 := by decide +kernel
  have p6 : p2 6 = 64 := by decide +kernel
  have u5 : ulp single 5 = 1 / 524288 := by decide +kernel
  have u6 : ulp single 6 = 1 / 262144 := by decide +kernel
  have l0 := in_lt W H x y hx hy
  have wc := hc _ l0
  have wu : Wn (swO W H v c y (ix W H x ((y : Int) - 1))) (76 / 5) := by
    have h := B (ix W H x ((y : Int) - 1)) (by rw [ix_up W H x y hx hy]; by_cases e : y = 0 <;> simp only [e, if_true, if_false] <;> exact in_lt W H _ _ hx (by omega))
    by_cases e : ix W H x ((y : Int) - 1) < W * y
    · rwa [if_pos e] at h
    · rw [if_neg e] at h; exact h.mono (by grind)
  obtain ⟨f1, g1, k1⟩ := sA_near wc wu 5 (by rw [p5]; grind) (ex_single (by decide) (by decide))
  rw [u5] at g1 k1
  have hd := B (ix W H x ((y : Int) + 1)) (by rw [ix_down W H x y hx hy]; by_cases e : y + 1 = H <;> simp only [e, if_true, if_false] <;> exact in_lt W H _ _ hx (by omega))
  have wd' : Wn (swO W H v c y (ix W H x ((y : Int) + 1))) (if y + 1 = H then 76 / 5 else 5) := by
    by_cases e : y + 1 = H
    · rw [if_pos e]
      by_cases q : ix W H x ((y : Int) + 1) < W * y
      · rwa [if_pos q] at hd
      · rw [if_neg q] at hd; exact hd.mono (by grind)
    · rw [if_neg e]
      rw [if_neg (by rw [ix_down W H x y hx hy, if_neg e, Nat.mul_succ]; omega)] at hd
      exact hd
  by_cases e : y + 1 = H
  · rw [if_pos e] at *
    obtain ⟨f2, g2, k2⟩ := sA_near g1 wd' 6 (by rw [p6]; grind) (ex_single (by decide) (by decide))
    rw [u6] at g2 k2
    exact ⟨⟨f1, f2⟩, g2.mono (by grind), by unfold swR swT; unfold Cl at *; constructor <;> grind⟩
  · rw [if_neg e] at *
    obtain ⟨f2, g2, k2⟩ := sA_near g1 wd' 6 (by rw [p6]; grind) (ex_single (by decide) (by decide))
    rw [u6] at g2 k2
    exact ⟨⟨f1, f2⟩, g2.mono (by grind), by unfold swR swT; unfold Cl at *; constructor <;> grind⟩

theorem sw_bd (hv : ∀ i, i < W * H → Wn (v i) 5) : ∀ y, y ≤ H → ∀ i, i < W * H → Wn (swO W H v c y i) (if y = H then 21 else if i < W * y then 76 / 5 else 5) := by
  intro y
  induction y with
  | zero =>
    intro _ i hi
    rw [if_neg (by omega), if_neg (by omega)]
    exact hv i hi
  | succ y ih =>
    intro hy i hi
    have B : ∀ i, i < W * H → Wn (swO W H v c y i) (if i < W * y then 76 / 5 else 5) := fun i hi => by
      have h := ih (by omega) i hi
      rwa [if_neg (by omega)] at h
    have R := fun x hx => sw_row hW hH hc y (by omega) B x hx
    have r48 : ∀ x, x < W → Wn (swR W H v c y x) 48 := fun x hx => by
      have h := (R x hx).2.1
      by_cases e : y + 1 = H
      · rw [if_pos e] at h; exact h.mono (by grind)
      · rw [if_neg e] at h; exact h.mono (by grind)
    obtain ⟨_, nmx, res⟩ := ringX_ok (show 3 ≤ W by omega) r48
    have mx := ring_max (n := W) (by omega) (x := fun k => V single (ringX W (swR W H v c y) k)) (r := fun k => V single (swR W H v c y k)) (R := if y + 1 = H then 81 / 2 else 303 / 10) (ε := 1 / 250) (fun k hk => (R k hk).2.1.bd) res
    rw [swO_succ]
    by_cases q : W * y ≤ i ∧ i < W * y + W
    · rw [if_pos q]
      have m := mx (i - W * y) (by omega)
      refine ⟨nmx _ (by omega), m.mono ?_⟩
      rw [show W * (y + 1) = W * y + W from Nat.mul_succ ..]
      by_cases e : y + 1 = H
      · rw [if_pos e, if_pos e]; grind
      · rw [if_neg e, if_neg e, if_pos (by omega)]; grind
    · rw [if_neg q]
      have h := B i hi
      rw [show W * (y + 1) = W * y + W from Nat.mul_succ ..]
      by_cases e : y + 1 = H
      · rw [if_pos e]
        by_cases q2 : i < W * y
        · rw [if_pos q2] at h; exact h.mono (by grind)
        · rw [if_neg q2] at h; exact h.mono (by grind)
      · rw [if_neg e]
        by_cases q2 : i < W * y
        · rw [if_pos (by omega)]; rwa [if_pos q2] at h
        · rw [if_neg (by omega)]; rwa [if_neg q2] at h

theorem sw_any (hv : ∀ i, i < W * H → Wn (v i) 5) : SweepW W H v c (swO W H v c) (swT W H v c) (swR W H v c) (fun y => ringX W (swR W H v c y)) ∧ (∀ i, i < W * H → Wn (swO W H v c H i) 21) ∧ (∀ x, x < W → Cl (4 * V single (swO W H v c H (x + W * (H - 1))) - V single (swO W H v c H (pv W x + W * (H - 1))) - V single (swO W H v c H (nx W x + W * (H - 1))) - V single (swO W H v c H (x + W * (H - 2))) - V single (swO W H v c H (x + W * 0))) (V single (c (x + W * (H - 1)))) (1 / 240)) := by
  have B : ∀ y, y < H → ∀ i, i < W * H → Wn (swO W H v c y i) (if i < W * y then 76 / 5 else 5) := fun y hy i hi => by
    have h := sw_bd hW hH hc hv y (by omega) i hi
    rwa [if_neg (by omega)] at h
  have R := fun y hy x hx => sw_row hW hH hc y hy (B y hy) x hx
  have r48 : ∀ y, y < H → ∀ x, x < W → Wn (swR W H v c y x) 48 := fun y hy x hx => by
    have h := (R y hy x hx).2.1
    by_cases e : y + 1 = H
    · rw [if_pos e] at h; exact h.mono (by grind)
    · rw [if_neg e] at h; exact h.mono (by grind)
  refine ⟨⟨fun i hi => rfl, fun y x hy hx => (R y hy x hx).1.1, fun y x hy hx => (R y hy x hx).1.2, fun y hy => (ringX_ok (show 3 ≤ W by omega) (r48 y hy)).1, fun y i hy hi => swO_succ W H v c y i⟩, fun i hi => ?_, fun x hx => ?_⟩
  · have h := sw_bd hW hH hc hv H (Nat.le_refl _) i hi
    rwa [if_pos rfl] at h
  · have hl : ∀ x, x < W → swO W H v c H (x + W * (H - 1)) = ringX W (swR W H v c (H - 1)) x := fun x hx => by
      have e : swO W H v c H = swO W H v c (H - 1 + 1) := by rw [show H - 1 + 1 = H by omega]
      rw [e, swO_succ, if_pos (by omega), show x + W * (H - 1) - W * (H - 1) = x by omega]
    have ho : ∀ i, i < W * (H - 1) → swO W H v c H i = swO W H v c (H - 1) i := fun i hi => by
      have e : swO W H v c H = swO W H v c (H - 1 + 1) := by rw [show H - 1 + 1 = H by omega]
      rw [e, swO_succ, if_neg (by omega)]
    have l1 := in_lt W (H - 1) x (H - 2) hx (by omega)
    have l2 := in_lt W (H - 1) x 0 hx (by omega)
    have res := (ringX_ok (show 3 ≤ W by omega) (r48 (H - 1) (by omega))).2.2 x hx
    have rr := (R (H - 1) (by omega) x hx).2.2
    rw [ix_up W H x (H - 1) hx (by omega), ix_down W H x (H - 1) hx (by omega), if_neg (by omega), if_pos (by omega), show H - 1 - 1 = H - 2 by omega, ← ho _ l1, ← ho _ l2] at rr
    rw [← hl x hx, ← hl _ (pv_lt (by omega)), ← hl _ (nx_lt (by omega))] at res
    unfold Cl at *
    constructor <;> grind
end

/-- The neighbours of a corner, one after another. -/
def nbI (W H i j : Nat) : Nat :=
  if j = 0 then ix W H (((i % W : Nat) : Int) - 1) ((i / W : Nat) : Int)
  else if j = 1 then ix W H (((i % W : Nat) : Int) + 1) ((i / W : Nat) : Int)
  else if j = 2 then ix W H ((i % W : Nat) : Int) (((i / W : Nat) : Int) - 1)
  else ix W H ((i % W : Nat) : Int) (((i / W : Nat) : Int) + 1)
/-- What a potential leaves, from total operations. -/
def lapA (W H : Nat) (v : Nat → Nat) (i : Nat) : Nat → Nat
  | 0 => sM 1082130432 (v i)
  | j + 1 => sS (lapA W H v i j) (v (nbI W H i j))

theorem lap_any {W H : Nat} (hS : Sd W H) {v : Nat → Nat} {B : Rat} {E : Int} (hv : ∀ i, i < W * H → Wn (v i) B) (hE : 8 * B + 1 ≤ p2 E) (hu : ulp single E ≤ 1 / 8) (e0 : -100 ≤ E) (e1 : E ≤ 100) :
    LapW W H v (lapA W H v) ∧ ∀ x y, x < W → y < H → Nm single (lapA W H v (x + W * y) 4) ∧ Cl (V single (lapA W H v (x + W * y) 4)) (4 * V single (v (x + W * y)) - V single (v (ix W H ((x : Int) - 1) y)) - V single (v (ix W H ((x : Int) + 1) y)) - V single (v (ix W H x ((y : Int) - 1))) - V single (v (ix W H x ((y : Int) + 1)))) (5 * ulp single E) := by
  obtain ⟨⟨_, _, _, v4⟩, _⟩ := ring_words
  obtain ⟨⟨_, _, _, n4⟩, _⟩ := ring_nms
  have u0 := ulp_pos single E
  have xE : Ex single E := ex_single (by omega) (by omega)
  have w4 : Wn 1082130432 4 := ⟨n4, by rw [v4]; unfold Cl; constructor <;> grind⟩
  have key : ∀ x y : Nat, x < W → y < H → (floatBits .mul .f32 1082130432 (v (x + W * y)) = some (lapA W H v (x + W * y) 0) ∧
      floatBits .sub .f32 (lapA W H v (x + W * y) 0) (v (ix W H ((x : Int) - 1) y)) = some (lapA W H v (x + W * y) 1) ∧
      floatBits .sub .f32 (lapA W H v (x + W * y) 1) (v (ix W H ((x : Int) + 1) y)) = some (lapA W H v (x + W * y) 2) ∧
      floatBits .sub .f32 (lapA W H v (x + W * y) 2) (v (ix W H x ((y : Int) - 1))) = some (lapA W H v (x + W * y) 3) ∧
      floatBits .sub .f32 (lapA W H v (x + W * y) 3) (v (ix W H x ((y : Int) + 1))) = some (lapA W H v (x + W * y) 4)) ∧ Nm single (lapA W H v (x + W * y) 4) ∧ Cl (V single (lapA W H v (x + W * y) 4)) (4 * V single (v (x + W * y)) - V single (v (ix W H ((x : Int) - 1) y)) - V single (v (ix W H ((x : Int) + 1) y)) - V single (v (ix W H x ((y : Int) - 1))) - V single (v (ix W H x ((y : Int) + 1)))) (5 * ulp single E) := by
    intro x y hx hy
    have em : (x + W * y) % W = x := by rw [Nat.add_mul_mod_self_left, Nat.mod_eq_of_lt hx]
    have ed : (x + W * y) / W = y := by rw [Nat.add_mul_div_left _ _ (by omega), Nat.div_eq_of_lt hx, Nat.zero_add]
    have w0 := hv _ (in_lt W H x y hx hy)
    have w1 := hv _ (ix_eq W H hS ((x : Int) - 1) y).2
    have w2 := hv _ (ix_eq W H hS ((x : Int) + 1) y).2
    have w3 := hv _ (ix_eq W H hS x ((y : Int) - 1)).2
    have w5 := hv _ (ix_eq W H hS x ((y : Int) + 1)).2
    have B0 := w0.nonneg
    obtain ⟨f0, g0, k0⟩ := sM_near w4 w0 E (by grind) xE
    obtain ⟨f1, g1, k1⟩ := sS_near g0 w1 E (by grind) xE
    obtain ⟨f2, g2, k2⟩ := sS_near g1 w2 E (by grind) xE
    obtain ⟨f3, g3, k3⟩ := sS_near g2 w3 E (by grind) xE
    obtain ⟨f4, g4, k4⟩ := sS_near g3 w5 E (by grind) xE
    have a0 : lapA W H v (x + W * y) 0 = sM 1082130432 (v (x + W * y)) := rfl
    have n0 : nbI W H (x + W * y) 0 = ix W H ((x : Int) - 1) y := by unfold nbI; rw [if_pos rfl, em, ed]
    have n1 : nbI W H (x + W * y) 1 = ix W H ((x : Int) + 1) y := by unfold nbI; rw [if_neg (by omega), if_pos rfl, em, ed]
    have n2 : nbI W H (x + W * y) 2 = ix W H x ((y : Int) - 1) := by unfold nbI; rw [if_neg (by omega), if_neg (by omega), if_pos rfl, em, ed]
    have n3 : nbI W H (x + W * y) 3 = ix W H x ((y : Int) + 1) := by unfold nbI; rw [if_neg (by omega), if_neg (by omega), if_neg (by omega), em, ed]
    have a1 : lapA W H v (x + W * y) 1 = sS (lapA W H v (x + W * y) 0) (v (ix W H ((x : Int) - 1) y)) := by rw [← n0]; rfl
    have a2 : lapA W H v (x + W * y) 2 = sS (lapA W H v (x + W * y) 1) (v (ix W H ((x : Int) + 1) y)) := by rw [← n1]; rfl
    have a3 : lapA W H v (x + W * y) 3 = sS (lapA W H v (x + W * y) 2) (v (ix W H x ((y : Int) - 1))) := by rw [← n2]; rfl
    have a4 : lapA W H v (x + W * y) 4 = sS (lapA W H v (x + W * y) 3) (v (ix W H x ((y : Int) + 1))) := by rw [← n3]; rfl
    rw [← a0] at f0 g0 k0 f1 g1 k1 f2 g2 k2 f3 g3 k3 f4 g4 k4
    rw [← a1] at f1 g1 k1 f2 g2 k2 f3 g3 k3 f4 g4 k4
    rw [← a2] at f2 g2 k2 f3 g3 k3 f4 g4 k4
    rw [← a3] at f3 g3 k3 f4 g4 k4
    rw [← a4] at f4 g4 k4
    rw [v4] at k0
    exact ⟨⟨f0, f1, f2, f3, f4⟩, g4.nm, by unfold Cl at *; constructor <;> grind⟩
  exact ⟨fun x y hx hy => (key x y hx hy).1, fun x y hx hy => (key x y hx hy).2⟩
end Go.Proofs.Ytmlocjcfcmifdaa
