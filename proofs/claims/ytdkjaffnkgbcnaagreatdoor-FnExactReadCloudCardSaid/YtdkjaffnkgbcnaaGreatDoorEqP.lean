/- Contracts: a particle is the same as itself. -/
import Derived.Test.YtdkjaffnkgbcnaaGreatDoorValid
import Derived.Test.YtdkjaffnkgbcnaaGreatDoorWords
namespace Go.Proofs.YtdkjaffnkgbcnaaGreatDoor
open Go.RowKit

/-! ### Two numbers are the same -/

theorem num_eq_zero {f : Ieee.Format} {b : Nat} {s : Bool} {m : Nat} {i : Int} (h : f.read b = .number s m i) (hz : f.order b 0 = some .eq) (h0 : f.read 0 = .number false 0 f.leastPlace) : m = 0 := by
  unfold Ieee.Format.order at hz
  rw [h, h0] at hz
  unfold Ieee.Datum.order at hz
  simp only [Option.some.injEq] at hz
  rw [Int.compare_eq_eq] at hz
  have e : Ieee.signed false 0 (f.leastPlace - min i f.leastPlace).toNat = 0 := by simp [Ieee.signed]
  rw [e] at hz
  unfold Ieee.signed at hz
  have hp : 0 < 2 ^ (i - min i f.leastPlace).toNat := Nat.two_pow_pos _
  have : m <<< (i - min i f.leastPlace).toNat = 0 := by
    split at hz <;> omega
  rw [Nat.shiftLeft_eq] at this
  rcases Nat.mul_eq_zero.1 this with h | h
  · exact h
  · omega

theorem read64_zero : FloatKind.f64.format.read 0 = .number false 0 FloatKind.f64.format.leastPlace := by decide +kernel

theorem order_self {k : FloatKind} {b : Nat} (h : isNaN k b = false) : k.format.order b b = some .eq := by
  unfold isNaN at h
  unfold Ieee.Format.order
  cases hd : k.format.read b with
  | number s m e => simp [Ieee.Datum.order]
  | infinity s => simp [Ieee.Datum.order]
  | nan s t => rw [hd] at h; cases h

/-- 1 / x of a zero is an infinity. -/
theorem one_over_zero {b : Nat} (hn : isNaN .f64 b = false) (hz : FloatKind.f64.format.order b 0 = some .eq) : ∃ r, floatBits .quo .f64 4607182418800017408 b = some r := by
  unfold isNaN at hn
  cases hd : FloatKind.f64.format.read b with
  | nan s t => rw [hd] at hn; cases hn
  | infinity s =>
    unfold Ieee.Format.order at hz
    rw [hd, read64_zero] at hz
    cases s <;> simp [Ieee.Datum.order] at hz
  | number s m i =>
    have hm := num_eq_zero hd hz read64_zero
    subst hm
    have h1 : FloatKind.f64.format.read 4607182418800017408 = .number false 4503599627370496 (-52) := by decide +kernel
    refine ⟨FloatKind.f64.format.write (.infinity (false ^^ s)), ?_⟩
    show (((FloatKind.f64.format.read 4607182418800017408).quotient _ (FloatKind.f64.format.read b)).map FloatKind.f64.format.write) = _
    rw [h1, hd]
    simp [Ieee.Datum.quotient]

set_option maxHeartbeats 1000000 in
/-- laws.sameFloat of a number and itself. -/
theorem sameFloat_self (b : Nat) (w : World) (hn : isNaN .f64 b = false) :
    Calls Tryz.prog 17 #[.float .f64 b, .float .f64 b] w fun e w' => e = .returned (.bool true) ∧ w' = w := by
  have hs : FloatKind.f64.format.order b b = some .eq := order_self hn
  cases hz : (FloatKind.f64.format.order b 0 == some .eq)
  · go_enter Tryz.func17, Tryz.ntmps17
    go_wp2
    go_ret
    exact ⟨rfl, rfl⟩
  · obtain ⟨r, hr⟩ := one_over_zero hn (by simpa using hz)
    have hq := fun (w : World) => run_float_arith (P := Tryz.prog) w .quo 50 .f64 4607182418800017408 b r hr
    clear hr
    go_enter Tryz.func17, Tryz.ntmps17
    go_wp2
    go_ret
    exact ⟨by simp, rfl⟩

theorem ftf_fin {b : Nat} (h : fin .f32 b = true) : floatToFloatBits .f32 b .f64 = some (widen b) := by
  cases hd : FloatKind.f32.decode b with
  | nan s t =>
    have h' : FloatKind.f32.format.read b = .nan s t := hd
    unfold fin at h; rw [h'] at h; cases h
  | infinity s =>
    have h' : FloatKind.f32.format.read b = .infinity s := hd
    unfold fin at h; rw [h'] at h; cases h
  | number s m i =>
    obtain ⟨r, hr, hw, hread, hsm⟩ := widen_number hd
    have he : FloatKind.f64.encode (.number s m i) = widen b := by unfold widen; rw [hd]
    unfold floatToFloatBits
    simp only [hd, he, hread]
    simp [Ieee.Datum.isInfinity]

theorem widen_not_nan {b : Nat} (h : fin .f32 b = true) : isNaN .f64 (widen b) = false := fin_not_nan (by rw [fin_widen]; exact h)

theorem run_wide {b : Nat} (h : fin .f32 b = true) (w : World) : (convert 25 50 (.float .f32 b)).run Tryz.prog w = .ok (.float .f64 (widen b)) w :=
  run_convert_float_float w 25 50 .f32 .f64 b (widen b) (by rw [Tryz.underlying25]; rfl) Tryz.underlying50 (ftf_fin h)
theorem run_wideC {a b : Nat} (h : finC a b = true) (w : World) : (convert 41 70 (.complex .f32 a b)).run Tryz.prog w = .ok (.complex .f64 (widen a) (widen b)) w := by
  unfold finC at h
  rw [Bool.and_eq_true] at h
  exact run_convert_complex w 41 70 .f32 .f64 a b (widen a) (widen b) (by rw [Tryz.underlying41]; rfl) Tryz.underlying70 (by unfold cConvBits; rw [ftf_fin h.1, ftf_fin h.2]; rfl)

set_option maxHeartbeats 1000000 in
theorem sameComplex_self (a b : Nat) (w : World) (h : finC a b = true) :
    Calls Tryz.prog 61 #[.complex .f64 (widen a) (widen b), .complex .f64 (widen a) (widen b)] w fun e w' => e = .returned (.bool true) ∧ w' = w := by
  unfold finC at h
  rw [Bool.and_eq_true] at h
  have H1 := keep (fun w => sameFloat_self (widen a) w (widen_not_nan h.1))
  have H2 := keep (fun w => sameFloat_self (widen b) w (widen_not_nan h.2))
  generalize widen a = x at *
  generalize widen b = y at *
  clear h
  go_enter Tryz.func61, Tryz.ntmps61
  go_wp2_with fail
  refine (H1.out _).mono ?_
  rintro e w' ⟨rfl, rfl⟩
  go_wp2_with fail
  refine (H2.out _).mono ?_
  rintro e w' ⟨rfl, rfl⟩
  go_wp2_with fail
  go_ret
  exact ⟨rfl, rfl⟩

def finP (a b c d q m : Nat) : Bool := finC a b && finC c d && (fin .f32 q && fin .f32 m)

set_option maxHeartbeats 1000000 in
theorem eqParticle_self (a b c d q m : Nat) (w : World) (h : finP a b c d q m = true) :
    Calls Tryz.prog 37 #[.agg (pCells a b c d q m), .agg (pCells a b c d q m)] w fun e w' => e = .returned (.bool true) ∧ Below w.heap.size w w' := by
  unfold finP at h
  rw [Bool.and_eq_true, Bool.and_eq_true, Bool.and_eq_true] at h
  have H1 := keep (fun w => sameComplex_self a b w h.1.1)
  have H2 := keep (fun w => sameComplex_self c d w h.1.2)
  have H3 := keep (fun w => sameFloat_self (widen q) w (widen_not_nan h.2.1))
  have H4 := keep (fun w => sameFloat_self (widen m) w (widen_not_nan h.2.2))
  have c1 := fun w => run_wideC h.1.1 w
  have c2 := fun w => run_wideC h.1.2 w
  have c3 := fun w => run_wide h.2.1 w
  have c4 := fun w => run_wide h.2.2 w
  clear h
  unfold pCells
  go_enter Tryz.func37, Tryz.ntmps37
  go_wp2_with fail
  refine (H1.out _).mono ?_
  rintro e w' ⟨rfl, rfl⟩
  go_wp2_with fail
  refine (H2.out _).mono ?_
  rintro e w' ⟨rfl, rfl⟩
  go_wp2_with fail
  refine (H3.out _).mono ?_
  rintro e w' ⟨rfl, rfl⟩
  go_wp2_with fail
  refine (H4.out _).mono ?_
  rintro e w' ⟨rfl, rfl⟩
  go_wp2_with fail
  go_ret
  exact ⟨rfl, by go_grown⟩
end Go.Proofs.YtdkjaffnkgbcnaaGreatDoor
