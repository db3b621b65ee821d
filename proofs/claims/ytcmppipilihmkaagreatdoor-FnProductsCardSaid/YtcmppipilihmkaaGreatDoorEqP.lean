/- Contracts: a particle is the same as itself. -/
import Derived.Test.YtcmppipilihmkaaGreatDoorValid
import Derived.Test.YtcmppipilihmkaaGreatDoorWords
namespace Go.Proofs.YtcmppipilihmkaaGreatDoor
open Go.RowKit

/-! ### Two numbers are the same -/

theorem num_eq_zero {f : Ieee.Format} {b : Nat} {s : Bool} {m : Nat} {i : Int} (h : f.read b = .number s m i) (hz : f.order b 0 = some .eq) (h0 : f.read 0 = .number false 0 f.leastPlace) : m = 0 := by
  unfold Ieee.Format.order at hz
  rw [h, h0] at hz
  unfold Ieee.Datum.order at hz
  simp only [Option.some.injEq] at hz
  rw [Int.compare_eq_eq] at hz
  have e : Ieee.signed false 0 (f.leastPlace - min i f.leastPlace).toNat = 0 := by simp [Ieee.signed]
  rw [e] at hz
  unfold Ieee.signed at hz
  have hp : 0 < 2 ^ (i - min i f.leastPlace).toNat := Nat.two_pow_pos _
  have : m <<< (i - min i f.leastPlace).toNat = 0 := by
    split at hz <;> omega
  rw [Nat.shiftLeft_eq] at this
  rcases Nat.mul_eq_zero.1 this with h | h
  · exact h
  · omega

theorem read64_zero : FloatKind.f64.format.read 0 = .number false 0 FloatKind.f64.format.leastPlace := by decide +kernel

theorem order_self {k : FloatKind} {b : Nat} (h : isNaN k b = false) : k.format.order b b = some .eq := by
  unfold isNaN at h
  unfold Ieee.Format.order
  cases hd : k.format.read b with
  | number s m e => simp [Ieee.Datum.order]
  | infinity s => simp [Ieee.Datum.order]
  | nan s t => rw [hd] at h; cases h

/-- 1 / x of a zero is an infinity. -/
theorem one_over_zero {b : Nat} (hn : isNaN .f64 b = false) (hz : FloatKind.f64.format.order b 0 = some .eq) : ∃ r, floatBits .quo .f64 4607182418800017408 b = some r := by
  unfold isNaN at hn
  cases hd : FloatKind.f64.format.read b with
  | nan s t => rw [hd] at hn; cases hn
  | infinity s =>
    unfold Ieee.Format.order at hz
    rw [hd, read64_zero] at hz
    cases s <;> simp [Ieee.Datum.order] at hz
  | number s m i =>
    have hm := num_eq_zero hd hz read64_zero
    subst hm
    have h1 : FloatKind.f64.format.read 4607182418800017408 = .number false 4503599627370496 (-52) := by decide +kernel
    refine ⟨FloatKind.f64.format.write (.infinity (false ^^ s)), ?_⟩
    show (((FloatKind.f64.format.read 4607182418800017408).quotient _ (FloatKind.f64.format.read b)).map FloatKind.f64.format.write) = _
    rw [h1, hd]
    simp [Ieee.Datum.quotient]

theorem ftf_fin {b : Nat} (h : fin .f32 b = true) : floatToFloatBits .f32 b .f64 = some (widen b) := by
  cases hd : FloatKind.f32.decode b with
  | nan s t =>
    have h' : FloatKind.f32.format.read b = .nan s t := hd
    unfold fin at h; rw [h'] at h; cases h
  | infinity s =>
    have h' : FloatKind.f32.format.read b = .infinity s := hd
    unfold fin at h; rw [h'] at h; cases h
  | number s m i =>
    obtain ⟨r, hr, hw, hread, hsm⟩ := widen_number hd
    have he : FloatKind.f64.encode (.number s m i) = widen b := by unfold widen; rw [hd]
    unfold floatToFloatBits
    simp only [hd, he, hread]
    simp [Ieee.Datum.isInfinity]

theorem widen_not_nan {b : Nat} (h : fin .f32 b = true) : isNaN .f64 (widen b) = false := fin_not_nan (by rw [fin_widen]; exact h)

theorem run_wide {b : Nat} (h : fin .f32 b = true) (w : World) : (convert 28 46 (.float .f32 b)).run Tryz.prog w = .ok (.float .f64 (widen b)) w :=
  run_convert_float_float w 28 46 .f32 .f64 b (widen b) (by rw [Tryz.underlying28]; rfl) Tryz.underlying46 (ftf_fin h)
theorem run_wideC {a b : Nat} (h : finC a b = true) (w : World) : (convert 24 45 (.complex .f32 a b)).run Tryz.prog w = .ok (.complex .f64 (widen a) (widen b)) w := by
  unfold finC at h
  rw [Bool.and_eq_true] at h
  exact run_convert_complex w 24 45 .f32 .f64 a b (widen a) (widen b) (by rw [Tryz.underlying24]; rfl) Tryz.underlying45 (by unfold cConvBits; rw [ftf_fin h.1, ftf_fin h.2]; rfl)

def finP (a b c d q m : Nat) : Bool := finC a b && finC c d && (fin .f32 q && fin .f32 m)

end Go.Proofs.YtcmppipilihmkaaGreatDoor
