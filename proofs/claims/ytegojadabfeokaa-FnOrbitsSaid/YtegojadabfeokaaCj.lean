/- Plain: all that the law FnOrbits asks of the steps of an orbit. No program. -/
import Derived.Test.YtegojadabfeokaaCb
import Derived.Test.YtegojadabfeokaaBl
namespace Go.Proofs.Ytegojadabfeokaa
open Ieee Go
set_option linter.unusedVariables false

theorem mx_abs {T : Nat} (n : Nm double T) : Nm double (mx T (Op.negFloat .f64 T)) ∧ 0 ≤ V double (mx T (Op.negFloat .f64 T)) ∧ (V double (mx T (Op.negFloat .f64 T)) = V double T ∨ V double (mx T (Op.negFloat .f64 T)) = -V double T) := by
  obtain ⟨nn, vn'⟩ := neg64_V n
  obtain ⟨a, b⟩ := mx_V n nn
  rw [vn'] at b
  refine ⟨a, ?_, ?_⟩ <;> rcases b with ⟨h1, h2⟩ | ⟨h1, h2⟩ <;> rw [h2] <;> grind
/-- The steps of an orbit, and how far apart they lie. -/
structure OTold (x y u v q m mag tick tr ti L0 D0 TD LG : Nat) (A B U W : Nat → Nat) : Prop where
  a0 : A 0 = x
  b0 : B 0 = y
  u0 : U 0 = u
  w0 : W 0 = v
  s : ∀ k, k < 6 → OStep q m mag tick (A k) (B k) (U k) (W k) (A (k + 1)) (B (k + 1)) (U (k + 1)) (W (k + 1))
  t : TurnW q m mag tick tr ti
  ntr : Nm single tr
  nti : Nm single ti
  tz : V single tr ≠ 0 ∨ V single ti ≠ 0
  l : LongW u v L0
  nL : Nm single L0
  w : floatToFloatBits .f32 L0 .f64 = some D0
  td : floatToFloatBits .f32 tick .f64 = some TD
  nT : Nm double TD
  nN : Nm double (Op.negFloat .f64 TD)
  lg : floatBits .mul .f64 D0 (mx TD (Op.negFloat .f64 TD)) = some LG
  far : ∀ k, k < 6 → ∃ D G, ApartW (A (k + 1)) (B (k + 1)) (A k) (B k) D ∧ GapW D LG G ∧ (FloatKind.f64.format.order G 4562254508917369340 == some .gt) = false
theorem otold_any {x y u v q m mag tick fx fy P h : Nat} (I : PIn x y u v q m mag tick fx fy) (bx : Cl (V single x) 0 8) (bY : Cl (V single y) 0 8) (H : PH q m tick P h) : ∃ tr ti L0 D0 TD LG A B U W, OTold x y u v q m mag tick tr ti L0 D0 TD LG A B U W := by
  obtain ⟨t, tr, ti, br, bi, X, Y, N, hb, ab1, ab2⟩ := turn_near H I.nmag I.bmag
  obtain ⟨A, B, U, W, a0, b0, u0, w0, hs, hi⟩ := orbit_ex H N I.ntick I.btick I.P.hx I.P.hy I.P.hu I.P.hv bx bY I.bu I.bv 6 (Nat.le_refl 6)
  obtain ⟨L0, l0, n0⟩ := long2 I.P.hu I.P.hv (I.bu.mono (by grind)) (I.bv.mono (by grind))
  obtain ⟨D0, w0', nD0, vD0⟩ := widen_V n0.nm
  obtain ⟨TD, td, nT, vT⟩ := widen_V I.ntick
  obtain ⟨nM, M0, vM⟩ := mx_abs nT
  have qu := I.bu.prod I.bu
  have qv := I.bv.prod I.bv
  have Lp := n0.pos
  have Lb := n0.high (3 / 2 - 1 / 100) (by grind) (by unfold Cl at qu qv; grind)
  have bt := I.btick
  have M1 : V double (mx TD (Op.negFloat .f64 TD)) ≤ 1 := by unfold Cl at bt; rcases vM with h | h <;> rw [h, vT] <;> grind
  have eM : V double (mx TD (Op.negFloat .f64 TD)) * V double (mx TD (Op.negFloat .f64 TD)) = V single tick * V single tick := by rcases vM with h | h <;> rw [h, vT] <;> grind
  have u2 : p2 2 = 4 := by decide +kernel
  have l2 : ulp double 2 ≤ 1 / 1000000 := by decide +kernel
  have p1 := Rat.mul_nonneg (a := 3 / 2 - V single L0) (b := V double (mx TD (Op.negFloat .f64 TD))) (by grind) M0
  have p0 := Rat.mul_nonneg Lp M0
  obtain ⟨LG, lg, nLG, cLG, _⟩ := mul_near good_double nD0 nM 2 (by rw [vD0, u2]; unfold Cl; constructor <;> grind) (ex_double (by decide) (by decide))
  rw [vD0] at cLG
  have id := rot_id 0 0 X Y _ N.hx N.hy
  have tz : V single tr ≠ 0 ∨ V single ti ≠ 0 := by
    by_cases h1 : V single tr = 0
    · right
      intro h2
      have c1 := N.are.cl
      have c2 := N.aim.cl
      rw [h1] at c1
      rw [h2] at c2
      have x1 : Cl X 0 (1 / 4194304) := c1.symm
      have x2 : Cl Y 0 (1 / 4194304) := c2.symm
      have q1 := x1.prod x1
      have q2 := x2.prod x2
      unfold Cl at q1 q2
      grind
    · exact .inl h1
  refine ⟨tr, ti, L0, D0, TD, LG, A, B, U, W, a0, b0, u0, w0, hs, N.w, N.are.nm, N.aim.nm, tz, l0, n0.nm, w0', td, nT, (neg64_V nT).1, lg, fun k hk => ?_⟩
  obtain ⟨L, D, ⟨r, s, h1, h2, h3⟩, h4, nD, lv⟩ := (hs k hk).far
  obtain ⟨_, _, _, _, _, _, nr⟩ := hi (k + 1) (by omega)
  have kb : ((k + 1 : Nat) : Rat) ≤ 6 := Rat.natCast_le_natCast.2 (show k + 1 ≤ 6 by omega)
  have k0 : (0 : Rat) ≤ ((k + 1 : Nat) : Rat) := Rat.natCast_nonneg
  have lL := (n0.lv.nr (nr.mono (e := 6 / 50000) (by grind) (by grind)) (by grind) (by grind)).scale _ M0 (by have := bself_nonneg (V single (U (k + 1))); have := bself_nonneg (V single (W (k + 1))); grind)
  rw [eM] at lL
  have g := lv.gap lL (by grind) (by grind)
  obtain ⟨G, hG, o⟩ := gap_small1 nD nLG (by unfold Cl at *; constructor <;> grind)
  exact ⟨D, G, ⟨r, s, L, h1, h2, h3, h4⟩, hG, o⟩
end Go.Proofs.Ytegojadabfeokaa
