/- Plain facts, by reckoning: the steps by which a number of eighths is wrapped into a side of a grid. -/
import Derived.Test.YtdonmboidpppmaaGc
namespace Go.Proofs.Ytdonmboidpppmaa
open Go.RowKit Ieee

/-- The steps of the wrapping are numbers, and the last is as wanted. -/
def wrapChk (x : Int) (side : Nat) : Bool :=
  match floatToFloatBits .f32 (wd single 3 x) .f64 with
  | none => false
  | some D => match floatBits .quo .f64 D (floatOfInt .f64 side) with
    | none => false
    | some q => match double.read q with
      | .number _ _ _ => match floatBits .mul .f64 (floatOfInt .f64 side) (floorB q) with
        | none => false
        | some p => match floatBits .sub .f64 D p with
          | none => false
          | some d => match floatToFloatBits .f64 d .f32 with
            | none => false
            | some r => (single.order r (floatOfInt .f32 side) == some .lt) &&
              ((single.order r 0 == some .gt && r == wd single 3 (x % (8 * (side : Int)))) || (single.order r 0 == some .eq && wd single 3 (x % (8 * (side : Int))) == 0))
      | _ => false

theorem wrapChk_out {x : Int} {side : Nat} (h : wrapChk x side = true) : ∃ D q p d r, floatToFloatBits .f32 (wd single 3 x) .f64 = some D ∧ floatBits .quo .f64 D (floatOfInt .f64 side) = some q ∧ (∃ s m i, double.read q = .number s m i) ∧
    floatBits .mul .f64 (floatOfInt .f64 side) (floorB q) = some p ∧ floatBits .sub .f64 D p = some d ∧ floatToFloatBits .f64 d .f32 = some r ∧ single.order r (floatOfInt .f32 side) = some .lt ∧
    ((single.order r 0 = some .gt ∧ r = wd single 3 (x % (8 * (side : Int)))) ∨ (single.order r 0 = some .eq ∧ wd single 3 (x % (8 * (side : Int))) = 0)) := by
  unfold wrapChk at h
  split at h
  · cases h
  · rename_i D hD
    split at h
    · cases h
    · rename_i q hq
      split at h
      · rename_i s m i hr
        split at h
        · cases h
        · rename_i p hp
          split at h
          · cases h
          · rename_i d hd
            split at h
            · cases h
            · rename_i r hr2
              simp only [Bool.and_eq_true, Bool.or_eq_true, beq_iff_eq] at h
              exact ⟨D, q, p, d, r, hD, hq, ⟨s, m, i, hr⟩, hp, hd, hr2, h.1, h.2⟩
      · cases h

theorem wrapChk_4 : ∀ n : Fin 360, wrapChk ((n.val : Int) - 112) 4 = true := by decide +kernel
theorem wrapChk_5 : ∀ n : Fin 360, wrapChk ((n.val : Int) - 112) 5 = true := by decide +kernel
theorem wrapChk_6 : ∀ n : Fin 360, wrapChk ((n.val : Int) - 112) 6 = true := by decide +kernel
theorem wrapChk_7 : ∀ n : Fin 360, wrapChk ((n.val : Int) - 112) 7 = true := by decide +kernel
theorem wrap_ok (x : Int) (side : Nat) (h0 : -112 ≤ x) (h1 : x ≤ 247) (h4 : 4 ≤ side) (h7 : side ≤ 7) : wrapChk x side = true := by
  have e : (((x + 112).toNat : Nat) : Int) - 112 = x := by omega
  have hs : side = 4 ∨ side = 5 ∨ side = 6 ∨ side = 7 := by omega
  rcases hs with rfl | rfl | rfl | rfl
  · have h := wrapChk_4 ⟨(x + 112).toNat, by omega⟩; rwa [e] at h
  · have h := wrapChk_5 ⟨(x + 112).toNat, by omega⟩; rwa [e] at h
  · have h := wrapChk_6 ⟨(x + 112).toNat, by omega⟩; rwa [e] at h
  · have h := wrapChk_7 ⟨(x + 112).toNat, by omega⟩; rwa [e] at h

end Go.Proofs.Ytdonmboidpppmaa
