/- Plain: what is reckoned in whole numbers of each grid of the laws: weights after six sweeps, errors, the potential of one charge. No program. -/
import Derived.Test.YtmlocjcfcmifdaaXo
namespace Go.Proofs.Ytmlocjcfcmifdaa
open Ieee
set_option linter.unusedVariables false

/-- The potential of a charge at j, at i. -/
def gG (l : List Int) (W H i j : Nat) : Int := l.getD ((i % W + W - j % W) % W + W * ((i / W + H - j / W) % H)) 0
def gAll (n : Nat) (p : Nat → Bool) : Bool := (List.range n).all p
def gAbs (l : List Int) (W H i : Nat) : Nat → Nat
  | 0 => 0
  | k + 1 => gAbs l W H i k + (gG l W H i k).natAbs
def gOk (W H : Nat) (l : List Int) (den : Nat) : Bool :=
  gAll (W * H) (fun i => gAll (W * H) (fun j => ((W * H : Nat) : Int) * (4 * gG l W H i j - gG l W H (nL W H i) j - gG l W H (nR W H i) j - gG l W H (nU W H i) j - gG l W H (nD W H i) j) == if j = i then (((W * H : Nat) : Int) - 1) * (den : Int) else -(den : Int))) &&
  gAll (W * H) (fun i => decide (4 * gAbs l W H i (W * H) ≤ 7 * den))
theorem gAll_at {n : Nat} {p : Nat → Bool} (h : gAll n p = true) (i : Nat) (hi : i < n) : p i = true := List.all_eq_true.1 h i (List.mem_range.2 hi)

theorem rsum_five (a b c d e r : Nat → Rat) : ∀ n, rsum (fun j => (4 * a j - b j - c j - d j - e j) * r j) n = 4 * rsum (fun j => a j * r j) n - rsum (fun j => b j * r j) n - rsum (fun j => c j * r j) n - rsum (fun j => d j * r j) n - rsum (fun j => e j * r j) n
  | 0 => by unfold rsum; grind
  | n + 1 => by
    have := rsum_five a b c d e r n
    unfold rsum
    rw [this]
    grind
theorem rsum_scale (k : Rat) (f : Nat → Rat) : ∀ n, rsum (fun j => k * f j) n = k * rsum f n
  | 0 => by unfold rsum; grind
  | n + 1 => by
    have := rsum_scale k f n
    unfold rsum
    rw [this]
    grind
theorem rsum_delta (n0 : Rat) (d : Rat) (r : Nat → Rat) (i : Nat) : ∀ n, rsum (fun j => (if j = i then (n0 - 1) * d else -d) * r j) n = (if i < n then n0 * d * r i else 0) - d * rsum r n
  | 0 => by unfold rsum; rw [if_neg (by omega)]; grind
  | n + 1 => by
    have ih := rsum_delta n0 d r i n
    unfold rsum
    rw [ih]
    by_cases e : n = i
    · subst e; rw [if_neg (by omega), if_pos rfl, if_pos (by omega)]; grind
    · rw [if_neg e]
      by_cases h : i < n
      · rw [if_pos h, if_pos (by omega)]; grind
      · rw [if_neg h, if_neg (by omega)]; grind
theorem gAbs_bd (l : List Int) (W H i : Nat) {r : Nat → Rat} {R : Rat} (hR : 0 ≤ R) : ∀ n, (∀ j, j < n → Cl (r j) 0 R) → Cl (rsum (fun j => ((gG l W H i j : Int) : Rat) * r j) n) 0 (((gAbs l W H i n : Nat) : Rat) * R)
  | 0, _ => by
    have z : ((gAbs l W H i 0 : Nat) : Rat) = 0 := rfl
    unfold rsum Cl
    rw [z]
    constructor <;> grind
  | n + 1, h => by
    have ih := gAbs_bd l W H i hR n (fun j hj => h j (by omega))
    have hb : Cl ((gG l W H i n : Int) : Rat) 0 (((gG l W H i n).natAbs : Nat) : Rat) := by
      have a1 : ((gG l W H i n : Int) : Rat) ≤ (((((gG l W H i n).natAbs : Nat) : Int)) : Rat) := Rat.intCast_le_intCast.2 (by omega)
      have a2 : ((-(((gG l W H i n).natAbs : Nat) : Int) : Int) : Rat) ≤ ((gG l W H i n : Int) : Rat) := Rat.intCast_le_intCast.2 (by omega)
      rw [Rat.intCast_neg] at a2
      have e1 : (((((gG l W H i n).natAbs : Nat) : Int)) : Rat) = (((gG l W H i n).natAbs : Nat) : Rat) := rfl
      rw [e1] at a1 a2
      unfold Cl
      constructor <;> grind
    have p := hb.prod (h n (by omega))
    unfold rsum gAbs
    rw [Rat.natCast_add]
    unfold Cl at *
    constructor <;> grind

/-- Charges have a potential, up to their mean. -/
theorem green {W H : Nat} {l : List Int} {den : Nat} (hn : 0 < W * H) (hd : 0 < den) (ok : gOk W H l den = true) (r : Nat → Rat) :
    ∃ v : Nat → Rat, (∀ i, i < W * H → 4 * v i - v (nL W H i) - v (nR W H i) - v (nU W H i) - v (nD W H i) = r i - rsum r (W * H) * ((W * H : Nat) : Rat)⁻¹) ∧ ∀ R : Rat, 0 ≤ R → (∀ j, j < W * H → Cl (r j) 0 R) → ∀ i, i < W * H → Cl (v i) 0 (7 / 4 * R) := by
  unfold gOk at ok
  rw [Bool.and_eq_true] at ok
  obtain ⟨o1, o2⟩ := ok
  generalize eN : W * H = n at *
  have d0 : (0 : Rat) < (den : Rat) := Rat.natCast_pos.2 hd
  have n0 : (0 : Rat) < (n : Rat) := Rat.natCast_pos.2 hn
  have di : (den : Rat) * (den : Rat)⁻¹ = 1 := Rat.mul_inv_cancel _ (by grind)
  have ni : (n : Rat) * (n : Rat)⁻¹ = 1 := Rat.mul_inv_cancel _ (by grind)
  have dp : (0 : Rat) < (den : Rat)⁻¹ := Rat.inv_pos.2 d0
  refine ⟨fun i => rsum (fun j => ((gG l W H i j : Int) : Rat) * r j) n * (den : Rat)⁻¹, fun i hi => ?_, fun R hR hr i hi => ?_⟩
  · have h := fun j hj => beq_iff_eq.1 (gAll_at (gAll_at o1 i hi) j hj)
    have f := rsum_five (fun j => ((gG l W H i j : Int) : Rat)) (fun j => ((gG l W H (nL W H i) j : Int) : Rat)) (fun j => ((gG l W H (nR W H i) j : Int) : Rat)) (fun j => ((gG l W H (nU W H i) j : Int) : Rat)) (fun j => ((gG l W H (nD W H i) j : Int) : Rat)) r n
    have g : (n : Rat) * rsum (fun j => (4 * ((gG l W H i j : Int) : Rat) - ((gG l W H (nL W H i) j : Int) : Rat) - ((gG l W H (nR W H i) j : Int) : Rat) - ((gG l W H (nU W H i) j : Int) : Rat) - ((gG l W H (nD W H i) j : Int) : Rat)) * r j) n = (n : Rat) * (den : Rat) * r i - (den : Rat) * rsum r n := by
      rw [← rsum_scale, rsum_congr (g := fun j => (if j = i then ((n : Rat) - 1) * (den : Rat) else -(den : Rat)) * r j) n (fun j hj => by
        have q := congrArg (Int.cast (R := Rat)) (h j hj)
        rw [Rat.intCast_mul, Rat.intCast_sub, Rat.intCast_sub, Rat.intCast_sub, Rat.intCast_sub, Rat.intCast_mul] at q
        have e4 : ((4 : Int) : Rat) = 4 := rfl
        have en : (((n : Nat) : Int) : Rat) = (n : Rat) := rfl
        rw [e4, en] at q
        have q2 : (((if j = i then ((n : Int) - 1) * (den : Int) else -(den : Int)) : Int) : Rat) = if j = i then ((n : Rat) - 1) * (den : Rat) else -(den : Rat) := by
          by_cases e : j = i
          · rw [if_pos e, if_pos e, Rat.intCast_mul, Rat.intCast_sub]; rfl
          · rw [if_neg e, if_neg e, Rat.intCast_neg]; rfl
        rw [q2] at q
        rw [← q]
        grind), rsum_delta, if_pos hi]
    rw [f] at g
    dsimp only
    generalize rsum (fun j => ((gG l W H i j : Int) : Rat) * r j) n = a at *
    generalize rsum (fun j => ((gG l W H (nL W H i) j : Int) : Rat) * r j) n = b at *
    generalize rsum (fun j => ((gG l W H (nR W H i) j : Int) : Rat) * r j) n = c at *
    generalize rsum (fun j => ((gG l W H (nU W H i) j : Int) : Rat) * r j) n = d at *
    generalize rsum (fun j => ((gG l W H (nD W H i) j : Int) : Rat) * r j) n = e at *
    generalize rsum r n = s at *
    clear f h o1 o2 hi
    have k1 : 4 * (a * (den : Rat)⁻¹) - b * (den : Rat)⁻¹ - c * (den : Rat)⁻¹ - d * (den : Rat)⁻¹ - e * (den : Rat)⁻¹ = ((n : Rat) * (n : Rat)⁻¹) * (4 * a - b - c - d - e) * (den : Rat)⁻¹ := by rw [ni]; grind
    have k2 : ((n : Rat) * (n : Rat)⁻¹) * (4 * a - b - c - d - e) * (den : Rat)⁻¹ = (n : Rat)⁻¹ * ((n : Rat) * (4 * a - b - c - d - e)) * (den : Rat)⁻¹ := by grind
    have k3 : (n : Rat)⁻¹ * ((n : Rat) * (den : Rat) * r i - (den : Rat) * s) * (den : Rat)⁻¹ = ((n : Rat) * (n : Rat)⁻¹) * ((den : Rat) * (den : Rat)⁻¹) * r i - s * (n : Rat)⁻¹ * ((den : Rat) * (den : Rat)⁻¹) := by grind
    rw [k1, k2, g, k3, ni, di]
    grind
  · have b := gAbs_bd l W H i hR n hr
    have o := of_decide_eq_true (gAll_at o2 i hi)
    have o' := Rat.natCast_le_natCast.2 o
    rw [Rat.natCast_mul, Rat.natCast_mul] at o'
    have e4 : ((4 : Nat) : Rat) = 4 := rfl
    have e7 : ((7 : Nat) : Rat) = 7 := rfl
    rw [e4, e7] at o'
    have m1 := Rat.mul_le_mul_of_nonneg_right o' hR
    have b' : Cl (rsum (fun j => ((gG l W H i j : Int) : Rat) * r j) n) 0 (7 / 4 * R * (den : Rat)) := b.mono (by grind)
    have q : Cl (rsum (fun j => ((gG l W H i j : Int) : Rat) * r j) n * (den : Rat)⁻¹ * (den : Rat)) 0 (7 / 4 * R * (den : Rat)) := by
      have e : rsum (fun j => ((gG l W H i j : Int) : Rat) * r j) n * (den : Rat)⁻¹ * (den : Rat) = rsum (fun j => ((gG l W H i j : Int) : Rat) * r j) n * ((den : Rat) * (den : Rat)⁻¹) := by grind
      rw [e, di, Rat.mul_one]; exact b'
    exact cl_of_mul d0 q

def gT44 : List Int := [56, 11, 0, 11, 11, 0, -5, 0, 0, -5, -8, -5, 11, 0, -5, 0]
theorem green44 : gOk 4 4 gT44 192 = true := by decide +kernel
theorem cert44 : Cert 4 4 6 16777216 1024 12247500 13312 := ⟨by decide, by decide +kernel, by decide +kernel⟩
def gT45 : List Int := [9241, 1976, 221, 1976, 1705, 0, -755, 0, -863, -1368, -1683, -1368, -863, -1368, -1683, -1368, 1705, 0, -755, 0]
theorem green45 : gOk 4 5 gT45 31160 = true := by decide +kernel
theorem cert45 : Cert 4 5 6 16777216 1024 12247500 13312 := ⟨by decide, by decide +kernel, by decide +kernel⟩
def gT46 : List Int := [3267, 920, 355, 920, 784, 239, 0, 239, -189, -328, -413, -328, -464, -529, -576, -529, -189, -328, -413, -328, 784, 239, 0, 239]
theorem green46 : gOk 4 6 gT46 10080 = true := by decide +kernel
theorem cert46 : Cert 4 6 6 16777216 1024 12247500 13312 := ⟨by decide, by decide +kernel, by decide +kernel⟩
def gT54 : List Int := [9241, 1705, -863, -863, 1705, 1976, 0, -1368, -1368, 0, 221, -755, -1683, -1683, -755, 1976, 0, -1368, -1368, 0]
theorem green54 : gOk 5 4 gT54 31160 = true := by decide +kernel
theorem cert54 : Cert 5 4 6 16777216 1024 12247500 13312 := ⟨by decide, by decide +kernel, by decide +kernel⟩
def gT55 : List Int := [16, 4, 0, 0, 4, 4, 1, -1, -1, 1, 0, -1, -2, -2, -1, 0, -1, -2, -2, -1, 4, 1, -1, -1, 1]
theorem green55 : gOk 5 5 gT55 50 = true := by decide +kernel
theorem cert55 : Cert 5 5 6 16777216 1024 12247500 13312 := ⟨by decide, by decide +kernel, by decide +kernel⟩
def gT56 : List Int := [268039, 80143, 17995, 17995, 80143, 76644, 30348, 0, 0, 30348, 3999, -9237, -22185, -22185, -9237, -16016, -22952, -31160, -31160, -22952, 3999, -9237, -22185, -22185, -9237, 76644, 30348, 0, 0, 30348]
theorem green56 : gOk 5 6 gT56 784740 = true := by decide +kernel
theorem cert56 : Cert 5 6 6 16777216 1024 12247500 13312 := ⟨by decide, by decide +kernel, by decide +kernel⟩
def gT64 : List Int := [3267, 784, -189, -464, -189, 784, 920, 239, -328, -529, -328, 239, 355, 0, -413, -576, -413, 0, 920, 239, -328, -529, -328, 239]
theorem green64 : gOk 6 4 gT64 10080 = true := by decide +kernel
theorem cert64 : Cert 6 4 6 16777216 1024 12247500 13312 := ⟨by decide, by decide +kernel, by decide +kernel⟩
def gT65 : List Int := [268039, 76644, 3999, -16016, 3999, 76644, 80143, 30348, -9237, -22952, -9237, 30348, 17995, 0, -22185, -31160, -22185, 0, 17995, 0, -22185, -31160, -22185, 0, 80143, 30348, -9237, -22952, -9237, 30348]
theorem green65 : gOk 6 5 gT65 784740 = true := by decide +kernel
theorem cert65 : Cert 6 5 6 16777216 1024 12247500 13312 := ⟨by decide, by decide +kernel, by decide +kernel⟩
def gT66 : List Int := [1781, 556, 97, -28, 97, 556, 556, 243, 0, -83, 0, 243, 97, 0, -117, -164, -117, 0, -28, -83, -164, -199, -164, -83, 97, 0, -117, -164, -117, 0, 556, 243, 0, -83, 0, 243]
theorem green66 : gOk 6 6 gT66 5040 = true := by decide +kernel
theorem cert66 : Cert 6 6 6 16777216 1024 12247500 13312 := ⟨by decide, by decide +kernel, by decide +kernel⟩
def gT74 : List Int := [337592, 100608, 0, -41624, -41624, 0, 100608, 116413, 49389, -12523, -45467, -45467, -12523, 49389, 63220, 26996, -20076, -48316, -48316, -20076, 26996, 116413, 49389, -12523, -45467, -45467, -12523, 49389]
theorem green74 : gOk 7 4 gT74 950264 = true := by decide +kernel
theorem cert74 : Cert 7 4 6 16777216 1024 12247500 13312 := ⟨by decide, by decide +kernel, by decide +kernel⟩
def gT75 : List Int := [105793, 33948, 4648, -7027, -7027, 4648, 33948, 36045, 16840, 0, -8700, -8700, 0, 16840, 13036, 5696, -4459, -10744, -10744, -4459, 5696, 13036, 5696, -4459, -10744, -10744, -4459, 5696, 36045, 16840, 0, -8700, -8700, 0, 16840]
theorem green75 : gOk 7 5 gT75 291515 = true := by decide +kernel
theorem cert75 : Cert 7 5 6 16777216 1024 12247500 13312 := ⟨by decide, by decide +kernel, by decide +kernel⟩
def gT76 : List Int := [29267333, 9412553, 1459409, -1648099, -1648099, 1459409, 9412553, 9622344, 4425144, 0, -2238444, -2238444, 0, 4425144, 2298573, 592497, -1719291, -3140415, -3140415, -1719291, 592497, 313772, -707620, -2402428, -3536692, -3536692, -2402428, -707620, 2298573, 592497, -1719291, -3140415, -3140415, -1719291, 592497, 9622344, 4425144, 0, -2238444, -2238444, 0, 4425144]
theorem green76 : gOk 7 6 gT76 80926356 = true := by decide +kernel
theorem cert76 : Cert 7 6 6 16777216 1024 12247500 13312 := ⟨by decide, by decide +kernel, by decide +kernel⟩

/-- A grid of the laws. -/
def Gd (W H : Nat) : Prop := (4 ≤ W ∧ W ≤ 7) ∧ (4 ≤ H ∧ H ≤ 6)
theorem Gd.cases {W H : Nat} (h : Gd W H) {P : Nat → Nat → Prop} (hp : ∀ w, w = 4 ∨ w = 5 ∨ w = 6 ∨ w = 7 → ∀ v, v = 4 ∨ v = 5 ∨ v = 6 → P w v) : P W H := by
  obtain ⟨⟨h1, h2⟩, h3, h4⟩ := h
  exact hp W (by omega) H (by omega)
theorem certs {W H : Nat} (h : Gd W H) : Cert W H 6 16777216 1024 12247500 13312 :=
  h.cases (P := fun W H => Cert W H 6 16777216 1024 12247500 13312) (fun w hw v hv => by
    rcases hw with rfl | rfl | rfl | rfl <;> rcases hv with rfl | rfl | rfl
    · exact cert44
    · exact cert45
    · exact cert46
    · exact cert54
    · exact cert55
    · exact cert56
    · exact cert64
    · exact cert65
    · exact cert66
    · exact cert74
    · exact cert75
    · exact cert76)
theorem greens {W H : Nat} (h : Gd W H) (r : Nat → Rat) : ∃ v : Nat → Rat, (∀ i, i < W * H → 4 * v i - v (nL W H i) - v (nR W H i) - v (nU W H i) - v (nD W H i) = r i - rsum r (W * H) * ((W * H : Nat) : Rat)⁻¹) ∧ ∀ R : Rat, 0 ≤ R → (∀ j, j < W * H → Cl (r j) 0 R) → ∀ i, i < W * H → Cl (v i) 0 (7 / 4 * R) :=
  h.cases (P := fun W H => ∃ v : Nat → Rat, (∀ i, i < W * H → 4 * v i - v (nL W H i) - v (nR W H i) - v (nU W H i) - v (nD W H i) = r i - rsum r (W * H) * ((W * H : Nat) : Rat)⁻¹) ∧ ∀ R : Rat, 0 ≤ R → (∀ j, j < W * H → Cl (r j) 0 R) → ∀ i, i < W * H → Cl (v i) 0 (7 / 4 * R)) (fun w hw v hv => by
    rcases hw with rfl | rfl | rfl | rfl <;> rcases hv with rfl | rfl | rfl
    · exact green (by decide) (by decide) green44 r
    · exact green (by decide) (by decide) green45 r
    · exact green (by decide) (by decide) green46 r
    · exact green (by decide) (by decide) green54 r
    · exact green (by decide) (by decide) green55 r
    · exact green (by decide) (by decide) green56 r
    · exact green (by decide) (by decide) green64 r
    · exact green (by decide) (by decide) green65 r
    · exact green (by decide) (by decide) green66 r
    · exact green (by decide) (by decide) green74 r
    · exact green (by decide) (by decide) green75 r
    · exact green (by decide) (by decide) green76 r)
end Go.Proofs.Ytmlocjcfcmifdaa
