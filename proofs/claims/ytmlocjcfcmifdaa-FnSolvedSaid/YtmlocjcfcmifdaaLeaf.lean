/- Contracts of the small functions on floats: is it finite, are two the same. No condition but those stated. -/
import Derived.Test.YtmlocjcfcmifdaaFl
namespace Go.Proofs.Ytmlocjcfcmifdaa
open Go.RowKit

/-- Neither an infinity nor a NaN. -/
def fin (k : FloatKind) (b : Nat) : Bool := match k.format.read b with | .number .. => true | _ => false

theorem signed_not (s : Bool) (m u : Nat) : Ieee.signed s m u + Ieee.signed (!s) m u = 0 := by
  cases s <;> simp [Ieee.signed] <;> omega

theorem min_self' (e : Int) : min e e = e := Int.min_self e

theorem sub_self_fin (k : FloatKind) (b : Nat) : fop .sub k b b = if fin k b then 0 else qnan k := by
  unfold fop floatBits fin
  simp only [Ieee.Format.sub]
  cases h : k.format.read b with
  | number s m e =>
    simp only [Ieee.Datum.opposite, Ieee.Datum.sum, min_self', signed_not]
    simp [Ieee.Format.write, Ieee.Format.nearest, Ieee.Format.word]
  | infinity s => cases s <;> simp [Ieee.Datum.opposite, Ieee.Datum.sum]
  | nan s t => simp [Ieee.Datum.sum]

theorem order_nan_l (k : FloatKind) {r : Nat} (y : Nat) (h : isNaN k r = true) : k.format.order r y = none := order_nan_left h

theorem order_zero_zero (k : FloatKind) : k.format.order 0 0 = some .eq := by cases k <;> decide +kernel

/-- 'x - x == 0'. -/
theorem order_sub_self {k : FloatKind} {r b : Nat} (h : FEq k r (fop .sub k b b)) : (k.format.order r 0 == some .eq) = fin k b := by
  rw [FEq.order h (FEq.refl k 0), sub_self_fin]
  cases fin k b
  · simp only [Bool.false_eq_true, if_false]
    rw [order_nan_l k 0 (qnan_nan k)]; rfl
  · simp only [if_true]; rw [order_zero_zero]; rfl

theorem fin_not_nan {k : FloatKind} {b : Nat} (h : fin k b = true) : isNaN k b = false := by
  unfold fin at h; unfold isNaN
  cases hd : k.format.read b <;> rw [hd] at h <;> first | rfl | cases h

set_option maxHeartbeats 400000 in
theorem isFinite64 (b : Nat) (w : World) : Calls Try.prog 102 #[.float .f64 b] w fun e w' => e = .returned (.bool (fin .f64 b)) ∧ ∃ m, w' = w.drewN m := by
  go_enter Try.func102, Try.ntmps102
  go_wp2_with (refine wpList_farith (o := ⟨some 5, .binOp .sub _ _ _ _, _, _, _, _⟩) rfl _ _ _ _ _ rfl rfl .f64 b b rfl rfl ?_; intro r m hr; have hq := order_sub_self hr)
  go_ret
  exact ⟨rfl, _, rfl⟩


theorem fin_widen (b : Nat) : fin .f64 (widen b) = fin .f32 b := by
  cases h : FloatKind.f32.decode b with
  | nan s t =>
    have h' : FloatKind.f32.format.read b = .nan s t := h
    have hw : widen b = qnan .f64 := by unfold widen; rw [h]
    unfold fin; rw [h', hw]; show (match FloatKind.f64.format.read (qnan FloatKind.f64) with | .number .. => true | _ => false) = false; decide +kernel
  | infinity s =>
    have h' : FloatKind.f32.format.read b = .infinity s := h
    have hw : widen b = FloatKind.f64.encode (.infinity s) := by unfold widen; rw [h]
    unfold fin; rw [h', hw]; show (match FloatKind.f64.format.read (FloatKind.f64.encode (.infinity s)) with | .number .. => true | _ => false) = false; cases s <;> decide +kernel
  | number s m i =>
    obtain ⟨r, _, _, hread, _⟩ := widen_number h
    have h' : FloatKind.f32.format.read b = .number s m i := h
    have hr' : FloatKind.f64.format.read (widen b) = .number s (rungMag Ieee.double r) (rungPlace Ieee.double r) := hread
    unfold fin; rw [h', hr']

theorem FEq.fin {k : FloatKind} {r s : Nat} (h : FEq k r s) : fin k r = fin k s := by
  rcases h with rfl | ⟨h1, h2⟩
  · rfl
  · cases e1 : Go.Proofs.Ytmlocjcfcmifdaa.fin k r with
    | true => rw [fin_not_nan e1] at h1; cases h1
    | false =>
      cases e2 : Go.Proofs.Ytmlocjcfcmifdaa.fin k s with
      | true => rw [fin_not_nan e2] at h2; cases h2
      | false => rfl

set_option maxHeartbeats 400000 in
theorem IsFinite32 (b : Nat) (w : World) : Calls Try.prog 91 #[.float .f32 b] w fun e w' => e = .returned (.bool (fin .f32 b)) ∧ ∃ m, w' = w.drewN m := by
  go_enter Try.func91, Try.ntmps91
  go_wp2_with (refine wpList_widen (o := ⟨some 4, .convert 28 33 (.tmp 3), _, _, _, _⟩) rfl _ _ _ rfl b rfl (by rw [Try.underlying28]; rfl) Try.underlying33 ?_)
  intro r m hr
  have hq : fin .f64 r = fin .f32 b := by rw [FEq.fin hr, fin_widen]
  clear hr
  go_wp2_with (go_at_call 102; refine (isFinite64 _ _).mono ?_; rintro e w' ⟨rfl, m, rfl⟩)
  go_ret
  exact ⟨rfl, _, rfl⟩

def finC (a b : Nat) : Bool := fin .f32 a && fin .f32 b

set_option maxHeartbeats 400000 in
theorem IsFiniteC (a b : Nat) (w : World) : Calls Try.prog 101 #[.complex .f32 a b] w fun e w' => e = .returned (.bool (finC a b)) ∧ ∃ m, w' = w.drewN m := by
  unfold finC
  cases ha : fin .f32 a
  all_goals
    go_enter Try.func101, Try.ntmps101
    go_wp2_with (go_at_call 91; refine (IsFinite32 _ _).mono ?_; rintro e w' ⟨rfl, m, rfl⟩)
    go_ret
    exact ⟨by simp, _, rfl⟩


theorem within_any (n lo hi : Int) (w : World) : Calls Try.prog 43 #[.int .i64 n, .int .i64 lo, .int .i64 hi] w fun e w' => e = .returned (.bool (decide (lo ≤ n) && decide (n ≤ hi))) ∧ w' = w := by
  by_cases h : lo ≤ n
  all_goals
    go_enter Try.func43, Try.ntmps43
    go_wp2
    go_ret
    exact ⟨by first | (simp [h]; done) | (simp; omega), rfl⟩
end Go.Proofs.Ytmlocjcfcmifdaa
