/- Plain: what field and magnet push nowhere stays, nearly; a push without a magnet is two kicks. No program. -/
import Derived.Test.YtegojadabfeokaaBh
namespace Go.Proofs.Ytegojadabfeokaa
open Ieee Go
set_option linter.unusedVariables false

theorem inv_bd {μ F X Φ : Rat} (hμ : 1 / 8 ≤ μ ∨ μ ≤ -(1 / 8)) (hF : Cl F 0 Φ) (hX : X * μ = F) : Cl X 0 (8 * Φ) := by
  have hΦ := hF.nonneg
  rcases hμ with h | h
  · have p := Rat.mul_nonneg (a := μ - 1 / 8) (b := Φ) (by grind) hΦ
    exact quo_bd (N := μ) (by grind) hX (by unfold Cl at *; constructor <;> grind)
  · have p := Rat.mul_nonneg (a := -μ - 1 / 8) (b := Φ) (by grind) hΦ
    exact quo_bd (N := -μ) (v := -F) (by grind) (by grind) (by unfold Cl at *; constructor <;> grind)
theorem half_bd {T F Φ : Rat} (h : Cl F 0 Φ) : Cl (T * F) 0 (Φ * (1 + T * T) / 2) := by
  have hΦ := h.nonneg
  have q1 := Rat.mul_nonneg hΦ (bself_nonneg (1 - T))
  have q2 := Rat.mul_nonneg hΦ (bself_nonneg (1 + T))
  unfold Cl at *
  rcases Rat.le_total (a := 0) (b := T) with h0 | h0
  · have a := Rat.mul_nonneg (a := T) (b := Φ - F) h0 (by grind)
    have b := Rat.mul_nonneg (a := T) (b := Φ + F) h0 (by grind)
    constructor <;> grind
  · have a := Rat.mul_nonneg (a := -T) (b := Φ - F) (by grind) (by grind)
    have b := Rat.mul_nonneg (a := -T) (b := Φ + F) (by grind) (by grind)
    constructor <;> grind
/-- The ideal: crossed speeds stay but for what the kick misses of the turn. -/
theorem cross_id {Fx Fy ι T c x y Φ : Rat} (hx : x * (1 + T * T) = 1 - T * T) (hy : y * (1 + T * T) = -2 * T) (bx : Cl Fx 0 Φ) (bY : Cl Fy 0 Φ) (D : Rat) (hD : Cl (c - T * ι) 0 D) :
    Cl ((Fy * ι + Fx * c) * x - (-(Fx * ι) + Fy * c) * y + Fx * c) (Fy * ι) (3 * Φ * D) ∧ Cl ((Fy * ι + Fx * c) * y + (-(Fx * ι) + Fy * c) * x + Fy * c) (-(Fx * ι)) (3 * Φ * D) := by
  have t0 := bself_nonneg T
  have hΦ := bx.nonneg
  have q1 : (Fy * ι + Fx * c) * (x * (1 + T * T)) = (Fy * ι + Fx * c) * (1 - T * T) := by rw [hx]
  have q2 : (-(Fx * ι) + Fy * c) * (y * (1 + T * T)) = (-(Fx * ι) + Fy * c) * (-2 * T) := by rw [hy]
  have q3 : (Fy * ι + Fx * c) * (y * (1 + T * T)) = (Fy * ι + Fx * c) * (-2 * T) := by rw [hy]
  have q4 : (-(Fx * ι) + Fy * c) * (x * (1 + T * T)) = (-(Fx * ι) + Fy * c) * (1 - T * T) := by rw [hx]
  have e1 : ((Fy * ι + Fx * c) * x - (-(Fx * ι) + Fy * c) * y + Fx * c - Fy * ι) * (1 + T * T) = 2 * ((c - T * ι) * (T * Fy + Fx)) := by grind
  have e2 : ((Fy * ι + Fx * c) * y + (-(Fx * ι) + Fy * c) * x + Fy * c + Fx * ι) * (1 + T * T) = 2 * ((c - T * ι) * (Fy - T * Fx)) := by grind
  have n0 : (0 : Rat) ≤ Φ * (T * T) := Rat.mul_nonneg hΦ t0
  have w1 : Cl (T * Fy + Fx) 0 (3 / 2 * (Φ * (1 + T * T))) := by
    have := half_bd (T := T) bY
    unfold Cl at *; constructor <;> grind
  have w2 : Cl (Fy - T * Fx) 0 (3 / 2 * (Φ * (1 + T * T))) := by
    have := half_bd (T := T) bx
    unfold Cl at *; constructor <;> grind
  have r1 := hD.prod w1
  have r2 := hD.prod w2
  have f1 := quo_bd (B := 3 * Φ * D) (N := 1 + T * T) (by grind) e1 (by unfold Cl at *; constructor <;> grind)
  have f2 := quo_bd (B := 3 * Φ * D) (N := 1 + T * T) (by grind) e2 (by unfold Cl at *; constructor <;> grind)
  unfold Cl at *
  refine ⟨⟨?_, ?_⟩, ⟨?_, ?_⟩⟩ <;> grind

structure CrossN (q m fx fy mag tick : Nat) (cx cy wr wi : Nat) (e e1 : Rat) : Prop where
  w : QuotW fx fy 0 mag cx cy
  ncx : Nm single cx
  ncy : Nm single cy
  p : PushW cx cy q m fx fy mag tick wr wi
  nwr : Nm single wr
  nwi : Nm single wi
  cr : Cl (V single wr) (V single cx) e
  ci : Cl (V single wi) (V single cy) e
  lx : ∃ ι : Rat, ι * V single mag = 1 ∧ Cl (V single cx) (V single fy * ι) e1 ∧ Cl (V single cy) (-(V single fx * ι)) e1
  bx : Cl (V single cx) 0 256
  bY : Cl (V single cy) 0 256
theorem cross_push {q m fx fy mag tick P h t tr ti : Nat} {x y : Rat} (H : PH q m tick P h) (N : TurnN q m mag tick P h t tr ti x y) (nfx : Nm single fx) (nfy : Nm single fy) (nmag : Nm single mag) (bmag : Cl (V single mag) 0 1) (hμ : 1 / 8 ≤ V single mag ∨ V single mag ≤ -(1 / 8)) (Φ : Rat) (bfx : Cl (V single fx) 0 Φ) (bfy : Cl (V single fy) 0 Φ) (hΦ : Φ ≤ 24)
    (Fc : Int) (Yc : Ex single Fc) (hFc : 8 * Φ + 1 / 1073741824 ≤ p2 Fc) (e1 : Rat) (he1 : 1 / 1073741824 + ulp single Fc ≤ e1) (he1' : e1 ≤ 1)
    (E : Int) (X : Ex single E) (hE : 6 * Φ ≤ p2 E) (sE : ulp single E ≤ 1 / 1000) (E1 : Int) (X1 : Ex single E1) (h1 : 14 * Φ + e1 + 1 / 1000 ≤ p2 E1) (A : Rat) (hA : 14 * Φ + e1 + 1 / 1000 + ulp single E1 ≤ A) (E2 : Int) (X2 : Ex double E2) (h2 : 4 * A + 1 ≤ p2 E2) (hu : 3 * ulp double E2 ≤ 1 / 1000000) (F : Int) (Y : Ex single F) (hF : 4 * A + (6 * Φ + 1 / 1000) + 1 ≤ p2 F) (hs : ulp single F ≤ 1 / 4)
    (e : Rat) (he : 3 * Φ / 100000 + (2 * (A / 4194304 + ulp single E1) + 3 * ulp double E2 + 2 * ulp single F) + 3 * e1 + 3 * ulp single E ≤ e) :
    ∃ cx cy wr wi, CrossN q m fx fy mag tick cx cy wr wi e e1 := by
  have z := nm_zero
  have Φ0 := bfx.nonneg
  have hμ0 : V single mag ≠ 0 := by grind
  obtain ⟨ι, hι⟩ : ∃ ι : Rat, ι * V single mag = 1 := ⟨(V single mag)⁻¹, Rat.inv_mul_cancel _ hμ0⟩
  have bX : Cl (V single fy * ι) 0 (8 * Φ) := inv_bd hμ bfy (by rw [Rat.mul_assoc, hι, Rat.mul_one])
  have bY : Cl (V single fx * ι) 0 (8 * Φ) := inv_bd hμ bfx (by rw [Rat.mul_assoc, hι, Rat.mul_one])
  have bY' : Cl (-(V single fx * ι)) 0 (8 * Φ) := by unfold Cl at *; constructor <;> grind
  have u6 : p2 6 = 64 := by decide +kernel
  have l6 : ulp double 6 = 1 / 140737488355328 := by decide +kernel
  have u8 : p2 8 = 256 := by decide +kernel
  have l10 : ulp double (8 + 2) ≤ 1 / 1000000000000 := by decide +kernel
  have sq : 1 / 64 ≤ V single mag * V single mag := by
    rcases hμ with h | h
    · have := Rat.mul_nonneg (a := V single mag - 1 / 8) (b := V single mag - 1 / 8) (by grind) (by grind); grind
    · have := Rat.mul_nonneg (a := -V single mag - 1 / 8) (b := -V single mag - 1 / 8) (by grind) (by grind); grind
  obtain ⟨cx, cy, hq, a1, a2⟩ := quot_near (A := Φ) (C := 1) nfx nfy z.1 nmag bfx bfy (by rw [z.2]; unfold Cl; constructor <;> grind) bmag 6 (ex_double (by decide) (by decide)) (by rw [u6]; grind) (by rw [u6]; grind) (by rw [l6]; grind) (η := 1 / 35184372088832) (by rw [l6]; grind)
    (V single fy * ι) (-(V single fx * ι)) (8 * Φ) (1 / 64) (1 / 2147483648) (by rw [z.2]; grind) (by rw [z.2]; grind) bX bY' (by rw [z.2]; grind) (by grind) (by grind) 8 (ex_double (by decide) (by decide)) (by rw [u8]; grind) (κ := 1 / 1073741824) (by grind) Fc Yc hFc (e' := e1) he1
  obtain ⟨c, kx, ky, K⟩ := kick_near H nfx nfy Φ bfx bfy E X hE
  have hcx := a1.cl
  have hcy := a2.cl
  have m1 := bfx.prod K.bc
  have m2 := bfy.prod K.bc
  have bkx : Cl (V single kx) 0 (6 * Φ + 1 / 1000) := by have := K.ckx; unfold Cl at *; constructor <;> grind
  have bky : Cl (V single ky) 0 (6 * Φ + 1 / 1000) := by have := K.cky; unfold Cl at *; constructor <;> grind
  obtain ⟨wr, wi, hw, n1, n2, c1, c2⟩ := push_near K.w N.w a1.nm a2.nm K.nkx K.nky (8 * Φ + e1) (6 * Φ + 1 / 1000) A a1.abs a2.abs bkx bky N.are N.aim E1 X1 (by grind) (by grind) E2 X2 h2 hu F Y hF hs _ (Rat.le_refl)
  have hD : Cl (V single c - V single t * ι) 0 (1 / 100000) := by
    have i1 := inv_bd (X := V single P * V single h - V single t * ι) (F := V single P * V single mag * V single h - V single t) (Φ := 1 / 900000) hμ (by have := N.ct; unfold Cl at *; constructor <;> grind) (by grind)
    have := K.cc
    unfold Cl at *
    constructor <;> grind
  obtain ⟨d1, d2⟩ := cross_id N.hx N.hy bfx bfy (1 / 100000) hD
  have g1 := hcx.zero_of
  have g2 := hcy.zero_of
  have g3 := K.ckx.zero_of
  have g4 := K.cky.zero_of
  have p1 := g1.prod N.are.bd
  have p2' := g2.prod N.aim.bd
  have p3 := g3.prod N.are.bd
  have p4 := g4.prod N.aim.bd
  have r1 := g1.prod N.aim.bd
  have r2 := g2.prod N.are.bd
  have r3 := g3.prod N.aim.bd
  have r4 := g4.prod N.are.bd
  refine ⟨cx, cy, wr, wi, hq, a1.nm, a2.nm, hw, n1, n2, ?_, ?_, ⟨ι, hι, hcx, hcy⟩, a1.abs.mono (by grind), a2.abs.mono (by grind)⟩
  · clear r1 r2 r3 r4 d2 c2 g2 g4 m1 m2 bkx bky bX bY bY' sq
    unfold Cl at *
    constructor <;> grind
  · clear p1 p2' p3 p4 d1 c1 g1 g3 m1 m2 bkx bky bX bY bY' sq
    unfold Cl at *
    constructor <;> grind
end Go.Proofs.Ytegojadabfeokaa
