/- Contracts: RadiusOf, OrbitCentre, TurnsOf, SameNumber, by the chains of operations; where nothing turns, there is neither radius nor centre. -/
import Derived.Test.YtegojadabfeokaaBd
import Derived.Test.YtegojadabfeokaaCf
import Derived.Test.YtegojadabfeokaaCg
import Derived.Deep.RegionLaw
namespace Go.Proofs.Ytegojadabfeokaa
open Go.RowKit Go.Sort Ieee
set_option linter.unusedSimpArgs false
set_option linter.unusedVariables false

theorem bfinite_no (z : Nat) (h : fin .f32 z = false) (w : World) : Calls Try.prog 45 #[.float .f32 z, .bool true] w fun e w' => e = .returned (.tuple #[.float .f32 0, .bool false]) ∧ ∃ m, w' = w.drewN m := by
  have F := IsFinite32 z
  rw [h] at F
  have F := keep F
  clear h
  go_enter Try.func45, Try.ntmps45
  go_wp2_with fail
  refine (F.out _).mono ?_
  rintro e w' ⟨rfl, m, rfl⟩
  go_wp2_with fail
  go_ret2
  exact ⟨rfl, _, rfl⟩

set_option maxHeartbeats 2000000 in
theorem bRadius {x y u v q m mag P W w32 L R : Nat} (I : PNm x y u v q m) (nmag : Nm single mag) (hP : floatBits .quo .f32 q m = some P) (nP : Nm single P) (mW : floatBits .mul .f32 P mag = some W) (nW : Nm single W) (ab : floatToFloatBits .f64 (widen W % 9223372036854775808) .f32 = some w32) (l : LongW u v L) (r : floatBits .quo .f32 L w32 = some R) (nR : Nm single R) (w : World) :
    Calls Try.prog 20 #[pAgg x y u v q m, .float .f32 mag] w fun e w' => e = .returned (.tuple #[.float .f32 R, .bool true]) ∧ Below w.heap.size w w' := by
  have PO := keep (fun w => bPullOf I hP nP w)
  have f1 := zrun mW
  have f2 := run_wide (bfin nW)
  have AB := keep (fun w => Abs_any (widen W) w (widen_lt W))
  have f3 := zconv64 _ _ ab
  have LO := keep (fun w => bLong l w)
  have f4 := zrun r
  have IF := keep (fun w => bIsF mag nmag w)
  have FI := keep (fun w => bfinite R nR w)
  have B0 := keep ((Below.refl w.heap.size w).alloc (Nat.le_refl _) (.cells #[.complex .f32 x y, .complex .f32 u v, .float .f32 q, .float .f32 m] 27))
  have H0 := keep (Has.made w 27 #[.complex .f32 x y, .complex .f32 u v, .float .f32 q, .float .f32 m])
  have P0 := (Has.made w 27 #[.complex .f32 x y, .complex .f32 u v, .float .f32 q, .float .f32 m]).cells
  unfold pAgg at *
  clear I nmag hP nP mW nW ab l r nR
  generalize widen W % 9223372036854775808 = Aw at *
  generalize widen W = Ww at *
  go_enter Try.func20, Try.ntmps20
  go_wp2_with fail
  refine (PO.out _).mono ?_
  rintro e w1 ⟨rfl, hb⟩
  have H1 := keep (H0.out.after hb)
  have B1 := keep (B0.out.trans (hb.mono B0.out.size))
  clear hb H0 B0 P0 PO
  have hc := H1.out.cells
  go_wp2_with (first
    | (go_at_call 50; refine (AB.out _).mono ?_; rintro e w' ⟨rfl, hw⟩; have hw := hw.symm; subst hw)
    | (go_at_call 13; refine (LO.out _).mono ?_; rintro e w' ⟨rfl, hw⟩; have hw := hw.symm; subst hw)
    | (go_at_call 43; refine (IF.out _).mono ?_; rintro e w' ⟨rfl, m1, rfl⟩)
    | (go_at_call 45; refine (FI.out _).mono ?_; rintro e w' ⟨rfl, m2, rfl⟩))
  go_ret2
  exact ⟨rfl, Below.drewN_of B1.out _⟩
set_option maxHeartbeats 2000000 in
set_option maxRecDepth 20000 in
theorem bRadius_no {x y u v q m mag P W L z : Nat} (I : PNm x y u v q m) (nmag : Nm single mag) (hP : floatBits .quo .f32 q m = some P) (nP : Nm single P) (mW : floatBits .mul .f32 P mag = some W) (nW : Nm single W) (ab : floatToFloatBits .f64 (widen W % 9223372036854775808) .f32 = some z) (hz : FloatKind.f32.format.read z = .number false 0 (-149)) (l : LongW u v L) (nL : Nm single L) (w : World) :
    Calls Try.prog 20 #[pAgg x y u v q m, .float .f32 mag] w fun e w' => e = .returned (.tuple #[.float .f32 0, .bool false]) ∧ Below w.heap.size w w' := by
  have PO := keep (fun w => bPullOf I hP nP w)
  have f1 := zrun mW
  have f2 := run_wide (bfin nW)
  have AB := keep (fun w => Abs_any (widen W) w (widen_lt W))
  have f3 := zconv64 _ _ ab
  have LO := keep (fun w => bLong l w)
  have f4 := keep (show fin .f32 (fop .quo .f32 L z) = false from by obtain ⟨s, m, i, e⟩ := nL; exact quo_zero (k := .f32) e z hz)
  have IF := keep (fun w => bIsF mag nmag w)
  have FI := keep (fun r h w => bfinite_no r h w)
  have B0 := keep ((Below.refl w.heap.size w).alloc (Nat.le_refl _) (.cells #[.complex .f32 x y, .complex .f32 u v, .float .f32 q, .float .f32 m] 27))
  have H0 := keep (Has.made w 27 #[.complex .f32 x y, .complex .f32 u v, .float .f32 q, .float .f32 m])
  have P0 := (Has.made w 27 #[.complex .f32 x y, .complex .f32 u v, .float .f32 q, .float .f32 m]).cells
  unfold pAgg at *
  clear I nmag hP nP mW nW ab l nL hz
  generalize widen W % 9223372036854775808 = Aw at *
  generalize widen W = Ww at *
  go_enter Try.func20, Try.ntmps20
  go_wp2_with fail
  refine (PO.out _).mono ?_
  rintro e w1 ⟨rfl, hb⟩
  have H1 := keep (H0.out.after hb)
  have B1 := keep (B0.out.trans (hb.mono B0.out.size))
  clear hb H0 B0 P0 PO
  have hc := H1.out.cells
  go_wp2_with (first
    | (go_at_call 50; refine (AB.out _).mono ?_; rintro e w' ⟨rfl, hw⟩; have hw := hw.symm; subst hw)
    | (go_at_call 13; refine (LO.out _).mono ?_; rintro e w' ⟨rfl, hw⟩; have hw := hw.symm; subst hw)
    | (refine wpList_farith (o := ⟨some 24, .binOp .quo _ _ _ _, _, _, _, _⟩) rfl _ _ _ _ _ rfl rfl .f32 L z rfl rfl ?_; intro r1 m1 hr1; have g1 := keep (feq_notfin hr1 f4.out); clear hr1)
    | (go_at_call 43; refine (IF.out _).mono ?_; rintro e w' ⟨rfl, m2, rfl⟩)
    | (go_at_call 45; refine (FI.out _ g1.out _).mono ?_; rintro e w' ⟨rfl, m3, rfl⟩))
  go_ret2
  exact ⟨rfl, Below.drewN_of B1.out _⟩

/-! ### Centres -/
theorem fop_sub_nofin {x r : Nat} (nx : Nm single x) (hr : fin .f32 r = false) : fin .f32 (fop .sub .f32 x r) = false := by
  obtain ⟨s, m, i, e⟩ := nx
  have e2 : fop .sub .f32 x r = (single.sub x r).getD (qnan .f32) := rfl
  rw [e2]
  rcases notfin_cases (f := single) hr with ⟨t, h⟩ | ⟨t, k, h⟩
  · have : single.sub x r = some (single.write (.infinity (!t))) := by
      unfold Format.sub
      rw [e, h]; rfl
    rw [this]
    cases t <;> decide +kernel
  · have : single.sub x r = none := by
      unfold Format.sub
      rw [e, h]; rfl
    rw [this]
    exact fin_nan (qnan_nan .f32)
set_option maxHeartbeats 1000000 in
set_option maxRecDepth 20000 in
theorem bless_no (x y r s : Nat) (nx : Nm single x) (hr : fin .f32 r = false) (w : World) : Calls Try.prog 51 #[.complex .f32 x y, .complex .f32 r s] w fun e w' => ∃ a b m, fin .f32 a = false ∧ e = .returned (.complex .f32 a b) ∧ w' = w.drewN m := by
  have f1 := keep (fop_sub_nofin nx hr)
  clear nx hr
  go_enter Try.func51, Try.ntmps51
  go_wp2_with (first
    | (refine wpList_farith (X := x) (Y := r) rfl .sub _ _ _ _ rfl rfl .f32 rfl rfl ?_; intro r1 m1 hr1; have g1 := keep (feq_notfin hr1 f1.out); clear hr1)
    | (refine wpList_farith (X := y) (Y := s) rfl .sub _ _ _ _ rfl rfl .f32 rfl rfl ?_; intro r2 m2 hr2))
  go_ret
  exact ⟨_, _, _, g1.out, rfl, rfl⟩
end Go.Proofs.Ytegojadabfeokaa
