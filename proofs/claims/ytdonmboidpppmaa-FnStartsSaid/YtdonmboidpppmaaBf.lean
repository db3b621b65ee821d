/- Plain: signs go through products; turns, kicks and pushes near their ideals. No program. -/
import Derived.Test.YtdonmboidpppmaaBb
namespace Go.Proofs.Ytdonmboidpppmaa
open Ieee Go
set_option linter.unusedVariables false

/-! ### Signs through products -/
theorem word_flip (f : Format) (s : Bool) (k : Nat) (hk : k < f.signWeight) : f.word (!s) k = f.word s k ^^^ f.signWeight := by
  have h1 : k ^^^ f.signWeight = f.signWeight + k := by
    have e : f.signWeight = 2 ^ (f.exponentBits + f.fractionBits) := rfl
    rw [e] at hk ⊢
    have q1 : (k ^^^ 2 ^ (f.exponentBits + f.fractionBits)) % 2 ^ (f.exponentBits + f.fractionBits) = k := by
      rw [Nat.xor_mod_two_pow, Nat.mod_self, Nat.xor_zero, Nat.mod_eq_of_lt hk]
    have q2 : (k ^^^ 2 ^ (f.exponentBits + f.fractionBits)) / 2 ^ (f.exponentBits + f.fractionBits) = 1 := by
      rw [Nat.xor_div_two_pow, Nat.div_self (Nat.two_pow_pos _), Nat.div_eq_of_lt hk]; rfl
    have q3 := Nat.div_add_mod (k ^^^ 2 ^ (f.exponentBits + f.fractionBits)) (2 ^ (f.exponentBits + f.fractionBits))
    rw [q1, q2, Nat.mul_one] at q3
    exact q3.symm
  have h2 : (f.signWeight + k) ^^^ f.signWeight = k := by rw [← h1, Nat.xor_assoc, Nat.xor_self, Nat.xor_zero]
  unfold Format.word
  cases s <;> simp [h1, h2]
theorem nearest_flip (f : Format) (s : Bool) (m : Nat) (i : Int) : f.nearest (!s) m i = f.nearest s m i ^^^ f.signWeight := by
  have hi := inf_lt f
  unfold Format.nearest
  split
  · exact word_flip f s 0 (Nat.two_pow_pos _)
  · exact word_flip f s _ (Nat.lt_of_le_of_lt (Nat.min_le_right _ _) hi)
theorem mul_negr {a b r : Nat} (na : Nm single a) (nb : Nm single b) (h : floatBits .mul .f32 a b = some r) : floatBits .mul .f32 a (Op.negFloat .f32 b) = some (Op.negFloat .f32 r) := by
  obtain ⟨s, m, i, ha⟩ := na
  obtain ⟨t, n, j, hb⟩ := nb
  have hn : single.read (Op.negFloat .f32 b) = .number (!t) n j := by
    rw [show Op.negFloat .f32 b = b ^^^ single.signWeight from rfl, bread_neg, hb]; rfl
  have h' : single.mul a b = some r := h
  show single.mul a (Op.negFloat .f32 b) = some (r ^^^ single.signWeight)
  unfold Format.mul at h' ⊢
  rw [ha, hb] at h'
  rw [ha, hn]
  have e1 : Datum.product (.number s m i) (.number t n j) = some (.number (s ^^ t) (m * n) (i + j)) := rfl
  have e2 : Datum.product (.number s m i) (.number (!t) n j) = some (.number (s ^^ !t) (m * n) (i + j)) := rfl
  rw [e1] at h'
  rw [e2]
  injection h' with h'
  rw [← h']
  show some (single.nearest (s ^^ !t) _ _) = some (single.nearest (s ^^ t) _ _ ^^^ _)
  rw [← nearest_flip, Bool.xor_not]
theorem mul_comm32 (a b : Nat) (na : Nm single a) (nb : Nm single b) : floatBits .mul .f32 a b = floatBits .mul .f32 b a := by
  obtain ⟨s, m, i, ha⟩ := na
  obtain ⟨t, n, j, hb⟩ := nb
  show single.mul a b = single.mul b a
  unfold Format.mul
  rw [ha, hb]
  show some (single.write (.number (s ^^ t) (m * n) (i + j))) = some (single.write (.number (t ^^ s) (n * m) (j + i)))
  rw [Bool.xor_comm, Nat.mul_comm, Int.add_comm]
theorem mul_negl {a b r : Nat} (na : Nm single a) (nb : Nm single b) (h : floatBits .mul .f32 a b = some r) : floatBits .mul .f32 (Op.negFloat .f32 a) b = some (Op.negFloat .f32 r) := by
  rw [mul_comm32 _ _ (neg32_V na).1 nb]
  exact mul_negr nb na (by rw [mul_comm32 _ _ nb na]; exact h)

/-! ### Numerals -/
theorem nm_one : Nm single 1065353216 ∧ V single 1065353216 = 1 := ⟨⟨false, 8388608, -23, by decide +kernel⟩, by decide +kernel⟩
theorem nm_two : Nm single 1073741824 ∧ V single 1073741824 = 2 := ⟨⟨false, 8388608, -22, by decide +kernel⟩, by decide +kernel⟩
theorem nm_zero : Nm single 0 ∧ V single 0 = 0 := ⟨⟨false, 0, -149, by decide +kernel⟩, by decide +kernel⟩

/-! ### Pulls and half ticks -/
/-- What a push is made of: the pull P and half of the tick, h. -/
structure PH (q m tick P h : Nat) : Prop where
  pull : floatBits .quo .f32 q m = some P
  half : floatBits .quo .f32 tick 1073741824 = some h
  nP : Nm single P
  nh : Nm single h
  bP : Cl (V single P) 0 9
  bh : Cl (V single h) 0 (5 / 8)
theorem ph_near {q m tick : Nat} (nq : Nm single q) (nm : Nm single m) (nt : Nm single tick) (bq : Cl (V single q) 0 2) (m0 : 1 / 4 ≤ V single m) (m1 : V single m ≤ 2) (bt : Cl (V single tick) 0 1) : ∃ P h, PH q m tick P h := by
  have hm0 : V single m ≠ 0 := by grind
  have e1 : V single q * (V single m)⁻¹ * V single m = V single q := by rw [Rat.mul_assoc, Rat.inv_mul_cancel _ hm0, Rat.mul_one]
  have u3 : p2 3 = 8 := by decide +kernel
  have u0 : p2 0 = 1 := by decide +kernel
  have l5 : ulp single (3 + 2) = 1 / 524288 := by decide +kernel
  have l2 : ulp single (0 + 2) = 1 / 4194304 := by decide +kernel
  obtain ⟨P, h1, a1⟩ := (Ap.self nq bq).div good_single (Ap.self nm (B := 2) (by unfold Cl; constructor <;> grind)) (V single q * (V single m)⁻¹) 8 (1 / 4) 0 e1 (quo_bd (by grind) e1 (by unfold Cl at bq ⊢; constructor <;> grind)) m0 (by grind) (by grind) 3 (ex_single (by decide) (by decide)) (by decide) (by rw [u3]; grind) (e' := 1 / 524288) (by rw [l5]; grind)
  have e2 : V single tick / 2 * V single 1073741824 = V single tick := by rw [nm_two.2]; grind
  obtain ⟨h, h2, a2⟩ := (Ap.self nt bt).div good_single (Ap.self nm_two.1 (B := 2) (by rw [nm_two.2]; unfold Cl; constructor <;> grind)) (V single tick / 2) (1 / 2) 2 0 e2 (by unfold Cl at bt ⊢; constructor <;> grind) (by rw [nm_two.2]; grind) (by grind) (by grind) 0 (ex_single (by decide) (by decide)) (by decide) (by rw [u0]; grind) (e' := 1 / 4194304) (by rw [l2]; grind)
  exact ⟨P, h, h1, h2, a1.nm, a2.nm, a1.abs.mono (by grind), a2.abs.mono (by grind)⟩

/-- A turn: t near its ideal, the turn's parts near those of t itself. -/
structure TurnN (q m mag tick P h t re im : Nat) (x y : Rat) : Prop where
  w : TurnW q m mag tick re im
  nt : Nm single t
  bt : Cl (V single t) 0 6
  ct : Cl (V single t) (V single P * V single mag * V single h) (1 / 900000)
  are : Ap single re x (1 / 4194304) 1
  aim : Ap single im y (1 / 4194304) 1
  hx : x * (1 + V single t * V single t) = 1 - V single t * V single t
  hy : y * (1 + V single t * V single t) = -2 * V single t
theorem unit_bd (T : Rat) : ∃ x y : Rat, x * (1 + T * T) = 1 - T * T ∧ y * (1 + T * T) = -2 * T ∧ Cl x 0 1 ∧ Cl y 0 1 := by
  have h0 := bself_nonneg T
  have h1 := bself_nonneg (1 - T)
  have h2 := bself_nonneg (1 + T)
  have hn : (1 + T * T) ≠ 0 := by grind
  have i : ∀ a : Rat, a * (1 + T * T)⁻¹ * (1 + T * T) = a := fun a => by rw [Rat.mul_assoc, Rat.inv_mul_cancel _ hn, Rat.mul_one]
  refine ⟨_, _, i _, i _, quo_bd (N := 1 + T * T) (by grind) (i _) (by unfold Cl; constructor <;> grind), quo_bd (N := 1 + T * T) (by grind) (i _) (by unfold Cl; constructor <;> grind)⟩
theorem turn_of {q m mag tick P h x0 t : Nat} (H : PH q m tick P h) (e1 : floatBits .mul .f32 P mag = some x0) (e2 : floatBits .mul .f32 x0 h = some t) (nt : Nm single t) (bt : Cl (V single t) 0 6) :
    ∃ re im x y, TurnW q m mag tick re im ∧ Ap single re x (1 / 4194304) 1 ∧ Ap single im y (1 / 4194304) 1 ∧ x * (1 + V single t * V single t) = 1 - V single t * V single t ∧ y * (1 + V single t * V single t) = -2 * V single t := by
  obtain ⟨x, y, hx, hy, bx, bY⟩ := unit_bd (V single t)
  obtain ⟨nn, vn'⟩ := neg32_V nt
  have v1 := nm_one.2
  have u7 : p2 7 = 128 := by decide +kernel
  have l7 : ulp double 7 = 1 / 70368744177664 := by decide +kernel
  have l3 : ulp double (1 + 2) = 1 / 1125899906842624 := by decide +kernel
  have u1 : p2 1 = 2 := by decide +kernel
  have s1 : ulp single 1 = 1 / 8388608 := by decide +kernel
  have t0 := bself_nonneg (V single t)
  obtain ⟨re, im, hw, h1, h2⟩ := quot_near (a := 1065353216) (b := Op.negFloat .f32 t) (c := 1065353216) (d := t) (A := 6) (C := 6) nm_one.1 nn nm_one.1 nt (by rw [v1]; unfold Cl; constructor <;> grind) (by rw [vn']; unfold Cl at *; constructor <;> grind) (by rw [v1]; unfold Cl; constructor <;> grind) bt 7 (ex_double (by decide) (by decide)) (by rw [u7]; grind) (by rw [u7]; grind) (by rw [l7]; grind) (η := 1 / 17592186044416) (by rw [l7]; grind)
    x y 1 1 (1 / 4398046511104) (by rw [v1, vn']; grind) (by rw [v1, vn']; grind) bx bY (by rw [v1]; grind) (by grind) (by grind) 1 (ex_double (by decide) (by decide)) (by rw [u1]; grind) (κ := 1 / 1099511627776) (by rw [l3]; grind) 1 (ex_single (by decide) (by decide)) (by rw [u1]; grind) (e' := 1 / 4194304) (by rw [s1]; grind)
  exact ⟨re, im, x, y, ⟨P, x0, h, t, H.pull, e1, H.half, e2, hw⟩, h1, h2, hx, hy⟩
theorem turn_near {q m mag tick P h : Nat} (H : PH q m tick P h) (nmag : Nm single mag) (bmag : Cl (V single mag) 0 1) :
    ∃ t re im re' im' x y, TurnN q m mag tick P h t re im x y ∧ TurnW q m (Op.negFloat .f32 mag) tick re' im' ∧ Ap single re' x (1 / 4194304) 1 ∧ Ap single im' (-y) (1 / 4194304) 1 := by
  have u4 : p2 4 = 16 := by decide +kernel
  have u3 : p2 3 = 8 := by decide +kernel
  have l4 : ulp single 4 = 1 / 1048576 := by decide +kernel
  have l3 : ulp single 3 = 1 / 2097152 := by decide +kernel
  obtain ⟨x0, e1, a1⟩ := (Ap.self H.nP H.bP).mul good_single (Ap.self nmag bmag) 4 (ex_single (by decide) (by decide)) (e' := 1 / 1048576) (B' := 9) (by rw [u4]; grind) (by rw [l4]; grind) (by grind)
  obtain ⟨t, e2, a2⟩ := a1.mul good_single (Ap.self H.nh H.bh) 3 (ex_single (by decide) (by decide)) (e' := 1 / 900000) (B' := 45 / 8) (by rw [u3]; grind) (by rw [l3]; grind) (by grind)
  have bt := a2.abs.mono (e' := 6) (by grind)
  obtain ⟨re, im, x, y, hw, h1, h2, hx, hy⟩ := turn_of H e1 e2 a2.nm bt
  have e1' := mul_negr H.nP nmag e1
  have e2' := mul_negl a1.nm H.nh e2
  obtain ⟨nn, vn'⟩ := neg32_V a2.nm
  obtain ⟨re', im', x', y', hw', h1', h2', hx', hy'⟩ := turn_of H e1' e2' nn (by rw [vn']; have := bt; unfold Cl at *; constructor <;> grind)
  rw [vn'] at hx' hy'
  have t0 := bself_nonneg (V single t)
  have hn : (1 + V single t * V single t) ≠ 0 := by grind
  have c1 : x' = x := by
    have : (x' - x) * (1 + V single t * V single t) = 0 := by grind
    rcases Rat.mul_eq_zero.1 this with h | h <;> grind
  have c2 : y' = -y := by
    have : (y' + y) * (1 + V single t * V single t) = 0 := by grind
    rcases Rat.mul_eq_zero.1 this with h | h <;> grind
  exact ⟨t, re, im, re', im', x, y, ⟨hw, a2.nm, bt, a2.cl, h1, h2, hx, hy⟩, hw', c1 ▸ h1', c2 ▸ h2'⟩
end Go.Proofs.Ytdonmboidpppmaa
