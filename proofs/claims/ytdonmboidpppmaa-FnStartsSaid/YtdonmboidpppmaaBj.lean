/- Plain: what field and magnet push nowhere stays, nearly; a push without a magnet is two kicks. No program. Plain: all that the law FnPushes asks, told of words. No program. -/
import Derived.Test.YtdonmboidpppmaaBh
namespace Go.Proofs.Ytdonmboidpppmaa
open Ieee Go
set_option linter.unusedVariables false

theorem inv_bd {μ F X Φ : Rat} (hμ : 1 / 8 ≤ μ ∨ μ ≤ -(1 / 8)) (hF : Cl F 0 Φ) (hX : X * μ = F) : Cl X 0 (8 * Φ) := by
  have hΦ := hF.nonneg
  rcases hμ with h | h
  · have p := Rat.mul_nonneg (a := μ - 1 / 8) (b := Φ) (by grind) hΦ
    exact quo_bd (N := μ) (by grind) hX (by unfold Cl at *; constructor <;> grind)
  · have p := Rat.mul_nonneg (a := -μ - 1 / 8) (b := Φ) (by grind) hΦ
    exact quo_bd (N := -μ) (v := -F) (by grind) (by grind) (by unfold Cl at *; constructor <;> grind)
theorem half_bd {T F Φ : Rat} (h : Cl F 0 Φ) : Cl (T * F) 0 (Φ * (1 + T * T) / 2) := by
  have hΦ := h.nonneg
  have q1 := Rat.mul_nonneg hΦ (bself_nonneg (1 - T))
  have q2 := Rat.mul_nonneg hΦ (bself_nonneg (1 + T))
  unfold Cl at *
  rcases Rat.le_total (a := 0) (b := T) with h0 | h0
  · have a := Rat.mul_nonneg (a := T) (b := Φ - F) h0 (by grind)
    have b := Rat.mul_nonneg (a := T) (b := Φ + F) h0 (by grind)
    constructor <;> grind
  · have a := Rat.mul_nonneg (a := -T) (b := Φ - F) (by grind) (by grind)
    have b := Rat.mul_nonneg (a := -T) (b := Φ + F) (by grind) (by grind)
    constructor <;> grind
/-- The ideal: crossed speeds stay but for what the kick misses of the turn. -/
theorem cross_id {Fx Fy ι T c x y Φ : Rat} (hx : x * (1 + T * T) = 1 - T * T) (hy : y * (1 + T * T) = -2 * T) (bx : Cl Fx 0 Φ) (bY : Cl Fy 0 Φ) (D : Rat) (hD : Cl (c - T * ι) 0 D) :
    Cl ((Fy * ι + Fx * c) * x - (-(Fx * ι) + Fy * c) * y + Fx * c) (Fy * ι) (3 * Φ * D) ∧ Cl ((Fy * ι + Fx * c) * y + (-(Fx * ι) + Fy * c) * x + Fy * c) (-(Fx * ι)) (3 * Φ * D) := by
  have t0 := bself_nonneg T
  have hΦ := bx.nonneg
  have q1 : (Fy * ι + Fx * c) * (x * (1 + T * T)) = (Fy * ι + Fx * c) * (1 - T * T) := by rw [hx]
  have q2 : (-(Fx * ι) + Fy * c) * (y * (1 + T * T)) = (-(Fx * ι) + Fy * c) * (-2 * T) := by rw [hy]
  have q3 : (Fy * ι + Fx * c) * (y * (1 + T * T)) = (Fy * ι + Fx * c) * (-2 * T) := by rw [hy]
  have q4 : (-(Fx * ι) + Fy * c) * (x * (1 + T * T)) = (-(Fx * ι) + Fy * c) * (1 - T * T) := by rw [hx]
  have e1 : ((Fy * ι + Fx * c) * x - (-(Fx * ι) + Fy * c) * y + Fx * c - Fy * ι) * (1 + T * T) = 2 * ((c - T * ι) * (T * Fy + Fx)) := by grind
  have e2 : ((Fy * ι + Fx * c) * y + (-(Fx * ι) + Fy * c) * x + Fy * c + Fx * ι) * (1 + T * T) = 2 * ((c - T * ι) * (Fy - T * Fx)) := by grind
  have n0 : (0 : Rat) ≤ Φ * (T * T) := Rat.mul_nonneg hΦ t0
  have w1 : Cl (T * Fy + Fx) 0 (3 / 2 * (Φ * (1 + T * T))) := by
    have := half_bd (T := T) bY
    unfold Cl at *; constructor <;> grind
  have w2 : Cl (Fy - T * Fx) 0 (3 / 2 * (Φ * (1 + T * T))) := by
    have := half_bd (T := T) bx
    unfold Cl at *; constructor <;> grind
  have r1 := hD.prod w1
  have r2 := hD.prod w2
  have f1 := quo_bd (B := 3 * Φ * D) (N := 1 + T * T) (by grind) e1 (by unfold Cl at *; constructor <;> grind)
  have f2 := quo_bd (B := 3 * Φ * D) (N := 1 + T * T) (by grind) e2 (by unfold Cl at *; constructor <;> grind)
  unfold Cl at *
  refine ⟨⟨?_, ?_⟩, ⟨?_, ?_⟩⟩ <;> grind

structure CrossN (q m fx fy mag tick : Nat) (cx cy wr wi : Nat) (e e1 : Rat) : Prop where
  w : QuotW fx fy 0 mag cx cy
  ncx : Nm single cx
  ncy : Nm single cy
  p : PushW cx cy q m fx fy mag tick wr wi
  nwr : Nm single wr
  nwi : Nm single wi
  cr : Cl (V single wr) (V single cx) e
  ci : Cl (V single wi) (V single cy) e
  lx : ∃ ι : Rat, ι * V single mag = 1 ∧ Cl (V single cx) (V single fy * ι) e1 ∧ Cl (V single cy) (-(V single fx * ι)) e1
  bx : Cl (V single cx) 0 256
  bY : Cl (V single cy) 0 256
theorem cross_push {q m fx fy mag tick P h t tr ti : Nat} {x y : Rat} (H : PH q m tick P h) (N : TurnN q m mag tick P h t tr ti x y) (nfx : Nm single fx) (nfy : Nm single fy) (nmag : Nm single mag) (bmag : Cl (V single mag) 0 1) (hμ : 1 / 8 ≤ V single mag ∨ V single mag ≤ -(1 / 8)) (Φ : Rat) (bfx : Cl (V single fx) 0 Φ) (bfy : Cl (V single fy) 0 Φ) (hΦ : Φ ≤ 24)
    (Fc : Int) (Yc : Ex single Fc) (hFc : 8 * Φ + 1 / 1073741824 ≤ p2 Fc) (e1 : Rat) (he1 : 1 / 1073741824 + ulp single Fc ≤ e1) (he1' : e1 ≤ 1)
    (E : Int) (X : Ex single E) (hE : 6 * Φ ≤ p2 E) (sE : ulp single E ≤ 1 / 1000) (E1 : Int) (X1 : Ex single E1) (h1 : 14 * Φ + e1 + 1 / 1000 ≤ p2 E1) (A : Rat) (hA : 14 * Φ + e1 + 1 / 1000 + ulp single E1 ≤ A) (E2 : Int) (X2 : Ex double E2) (h2 : 4 * A + 1 ≤ p2 E2) (hu : 3 * ulp double E2 ≤ 1 / 1000000) (F : Int) (Y : Ex single F) (hF : 4 * A + (6 * Φ + 1 / 1000) + 1 ≤ p2 F) (hs : ulp single F ≤ 1 / 4)
    (e : Rat) (he : 3 * Φ / 100000 + (2 * (A / 4194304 + ulp single E1) + 3 * ulp double E2 + 2 * ulp single F) + 3 * e1 + 3 * ulp single E ≤ e) :
    ∃ cx cy wr wi, CrossN q m fx fy mag tick cx cy wr wi e e1 := by
  have z := nm_zero
  have Φ0 := bfx.nonneg
  have hμ0 : V single mag ≠ 0 := by grind
  obtain ⟨ι, hι⟩ : ∃ ι : Rat, ι * V single mag = 1 := ⟨(V single mag)⁻¹, Rat.inv_mul_cancel _ hμ0⟩
  have bX : Cl (V single fy * ι) 0 (8 * Φ) := inv_bd hμ bfy (by rw [Rat.mul_assoc, hι, Rat.mul_one])
  have bY : Cl (V single fx * ι) 0 (8 * Φ) := inv_bd hμ bfx (by rw [Rat.mul_assoc, hι, Rat.mul_one])
  have bY' : Cl (-(V single fx * ι)) 0 (8 * Φ) := by unfold Cl at *; constructor <;> grind
  have u6 : p2 6 = 64 := by decide +kernel
  have l6 : ulp double 6 = 1 / 140737488355328 := by decide +kernel
  have u8 : p2 8 = 256 := by decide +kernel
  have l10 : ulp double (8 + 2) ≤ 1 / 1000000000000 := by decide +kernel
  have sq : 1 / 64 ≤ V single mag * V single mag := by
    rcases hμ with h | h
    · have := Rat.mul_nonneg (a := V single mag - 1 / 8) (b := V single mag - 1 / 8) (by grind) (by grind); grind
    · have := Rat.mul_nonneg (a := -V single mag - 1 / 8) (b := -V single mag - 1 / 8) (by grind) (by grind); grind
  obtain ⟨cx, cy, hq, a1, a2⟩ := quot_near (A := Φ) (C := 1) nfx nfy z.1 nmag bfx bfy (by rw [z.2]; unfold Cl; constructor <;> grind) bmag 6 (ex_double (by decide) (by decide)) (by rw [u6]; grind) (by rw [u6]; grind) (by rw [l6]; grind) (η := 1 / 35184372088832) (by rw [l6]; grind)
    (V single fy * ι) (-(V single fx * ι)) (8 * Φ) (1 / 64) (1 / 2147483648) (by rw [z.2]; grind) (by rw [z.2]; grind) bX bY' (by rw [z.2]; grind) (by grind) (by grind) 8 (ex_double (by decide) (by decide)) (by rw [u8]; grind) (κ := 1 / 1073741824) (by grind) Fc Yc hFc (e' := e1) he1
  obtain ⟨c, kx, ky, K⟩ := kick_near H nfx nfy Φ bfx bfy E X hE
  have hcx := a1.cl
  have hcy := a2.cl
  have m1 := bfx.prod K.bc
  have m2 := bfy.prod K.bc
  have bkx : Cl (V single kx) 0 (6 * Φ + 1 / 1000) := by have := K.ckx; unfold Cl at *; constructor <;> grind
  have bky : Cl (V single ky) 0 (6 * Φ + 1 / 1000) := by have := K.cky; unfold Cl at *; constructor <;> grind
  obtain ⟨wr, wi, hw, n1, n2, c1, c2⟩ := push_near K.w N.w a1.nm a2.nm K.nkx K.nky (8 * Φ + e1) (6 * Φ + 1 / 1000) A a1.abs a2.abs bkx bky N.are N.aim E1 X1 (by grind) (by grind) E2 X2 h2 hu F Y hF hs _ (Rat.le_refl)
  have hD : Cl (V single c - V single t * ι) 0 (1 / 100000) := by
    have i1 := inv_bd (X := V single P * V single h - V single t * ι) (F := V single P * V single mag * V single h - V single t) (Φ := 1 / 900000) hμ (by have := N.ct; unfold Cl at *; constructor <;> grind) (by grind)
    have := K.cc
    unfold Cl at *
    constructor <;> grind
  obtain ⟨d1, d2⟩ := cross_id N.hx N.hy bfx bfy (1 / 100000) hD
  have g1 := hcx.zero_of
  have g2 := hcy.zero_of
  have g3 := K.ckx.zero_of
  have g4 := K.cky.zero_of
  have p1 := g1.prod N.are.bd
  have p2' := g2.prod N.aim.bd
  have p3 := g3.prod N.are.bd
  have p4 := g4.prod N.aim.bd
  have r1 := g1.prod N.aim.bd
  have r2 := g2.prod N.are.bd
  have r3 := g3.prod N.aim.bd
  have r4 := g4.prod N.are.bd
  refine ⟨cx, cy, wr, wi, hq, a1.nm, a2.nm, hw, n1, n2, ?_, ?_, ⟨ι, hι, hcx, hcy⟩, a1.abs.mono (by grind), a2.abs.mono (by grind)⟩
  · clear r1 r2 r3 r4 d2 c2 g2 g4 m1 m2 bkx bky bX bY bY' sq
    unfold Cl at *
    constructor <;> grind
  · clear p1 p2' p3 p4 d1 c1 g1 g3 m1 m2 bkx bky bX bY bY' sq
    unfold Cl at *
    constructor <;> grind
end Go.Proofs.Ytdonmboidpppmaa
namespace Go.Proofs.Ytdonmboidpppmaa
open Ieee Go
set_option linter.unusedVariables false

/-- What a law is given: the numbers of a particle, a magnet, a tick and a field. -/
structure PIn (x y u v q m mag tick fx fy : Nat) : Prop where
  P : PNm x y u v q m
  bu : Cl (V single u) 0 1
  bv : Cl (V single v) 0 1
  bq : Cl (V single q) 0 2
  m0 : 1 / 4 ≤ V single m
  m1 : V single m ≤ 2
  nmag : Nm single mag
  bmag : Cl (V single mag) 0 1
  ntick : Nm single tick
  btick : Cl (V single tick) 0 1
  nfx : Nm single fx
  nfy : Nm single fy
  bfx : Cl (V single fx) 0 24
  bfy : Cl (V single fy) 0 24
structure PTold (u v q m mag tick fx fy tr ti br bi vr vi L1 D1 G1 ar ai D2 L3 D3 L4 D4 G3 kx ky pr pi P s1 s2 h1 h2 D7 L8 D8 a8 r8 : Nat) : Prop where
  t1 : TurnW q m mag tick tr ti
  ntr : Nm single tr
  nti : Nm single ti
  t2 : TurnW q m (Op.negFloat .f32 mag) tick br bi
  nneg : Nm single (Op.negFloat .f32 mag)
  nbr : Nm single br
  nbi : Nm single bi
  t3 : PushW u v q m 0 0 mag tick vr vi
  nvr : Nm single vr
  nvi : Nm single vi
  l1 : LongW tr ti L1
  w1 : floatToFloatBits .f32 L1 .f64 = some D1
  g1 : GapW D1 4607182418800017408 G1
  o1 : (FloatKind.f64.format.order G1 4562254508917369340 == some .gt) = false
  m2 : MulW tr ti br bi ar ai
  a2 : ApartW ar ai 1065353216 0 D2
  o2 : (FloatKind.f64.format.order D2 4562254508917369340 == some .gt) = false
  l3 : LongW vr vi L3
  w3 : floatToFloatBits .f32 L3 .f64 = some D3
  l4 : LongW u v L4
  w4 : floatToFloatBits .f32 L4 .f64 = some D4
  g3 : GapW D3 D4 G3
  o3 : (FloatKind.f64.format.order G3 4562254508917369340 == some .gt) = false
  k : KickW q m fx fy tick kx ky
  nkx : Nm single kx
  nky : Nm single ky
  p : PushW u v q m fx fy 0 tick pr pi
  npr : Nm single pr
  npi : Nm single pi
  pull : floatBits .quo .f32 q m = some P
  nP : Nm single P
  z1 : floatBits .add .f32 u kx = some s1
  z2 : floatBits .add .f32 v ky = some s2
  z3 : floatBits .add .f32 s1 kx = some h1
  z4 : floatBits .add .f32 s2 ky = some h2
  a7 : ApartW pr pi h1 h2 D7
  l8 : LongW kx ky L8
  w8 : floatToFloatBits .f32 L8 .f64 = some D8
  y8 : floatBits .add .f64 4607182418800017408 D8 = some a8
  x8 : floatBits .mul .f64 4562254508917369340 a8 = some r8
  o7 : (FloatKind.f64.format.order D7 r8 == some .lt) = true
  o8 : (FloatKind.f32.format.order P P == some .eq) = true
structure CTold (q m mag tick fx fy cx cy wr wi D5 L5 D6 s5 r5 : Nat) : Prop where
  w : QuotW fx fy 0 mag cx cy
  ncx : Nm single cx
  ncy : Nm single cy
  p : PushW cx cy q m fx fy mag tick wr wi
  nwr : Nm single wr
  nwi : Nm single wi
  a5 : ApartW wr wi cx cy D5
  l5 : LongW cx cy L5
  w6 : floatToFloatBits .f32 L5 .f64 = some D6
  y6 : floatBits .add .f64 4607182418800017408 D6 = some s5
  x6 : floatBits .mul .f64 4562254508917369340 s5 = some r5
  o5 : (FloatKind.f64.format.order D5 r5 == some .gt) = false

theorem told_any {x y u v q m mag tick fx fy : Nat} (I : PIn x y u v q m mag tick fx fy) :
    ∃ tr ti br bi vr vi L1 D1 G1 ar ai D2 L3 D3 L4 D4 G3 kx ky pr pi P s1 s2 h1 h2 D7 L8 D8 a8 r8, PTold u v q m mag tick fx fy tr ti br bi vr vi L1 D1 G1 ar ai D2 L3 D3 L4 D4 G3 kx ky pr pi P s1 s2 h1 h2 D7 L8 D8 a8 r8 := by
  obtain ⟨P, h, H⟩ := ph_near I.P.hq I.P.hm I.ntick I.bq I.m0 I.m1 I.btick
  obtain ⟨t, tr, ti, br, bi, X, Y, N, hb, ab1, ab2⟩ := turn_near H I.nmag I.bmag
  obtain ⟨vr, vi, hp3, nvr, nvi, cvr, cvi⟩ := push_free H N I.P.hu I.P.hv I.bu I.bv
  have id := rot_id 0 0 X Y _ N.hx N.hy
  have one := nm_one64
  have C := c001
  -- the length of a turn
  obtain ⟨L1, l1, n1⟩ := long2 N.are.nm N.aim.nm (N.are.abs.mono (by grind)) (N.aim.abs.mono (by grind))
  have n1' := n1.near N.are.cl N.aim.cl
  rw [id] at n1'
  have lo1 := n1'.low 1 (by grind) (by grind)
  have hi1 := n1'.high 1 (by grind) (by grind)
  obtain ⟨D1, w1, nD1, vD1⟩ := widen_V n1.nm
  obtain ⟨G1, g1, o1⟩ := gap_small1 nD1 one.1 (by rw [vD1, one.2]; unfold Cl; constructor <;> grind)
  -- a turn and its opposite
  have u4 : p2 4 = 16 := by decide +kernel
  have l4 : ulp double 4 = 1 / 562949953421312 := by decide +kernel
  have s4 : ulp single 4 = 1 / 1048576 := by decide +kernel
  obtain ⟨ar, ai, m2, am1, am2⟩ := mul_cl (A := 2) (C := 2) N.are.nm N.aim.nm ab1.nm ab2.nm (N.are.abs.mono (by grind)) (N.aim.abs.mono (by grind)) (ab1.abs.mono (by grind)) (ab2.abs.mono (by grind)) 4 (ex_double (by decide) (by decide)) (by rw [u4]; grind) (by rw [l4]; grind) (η := 1 / 140737488355328) (by rw [l4]; grind) 4 (ex_single (by decide) (by decide)) (by rw [u4]; grind) (e' := 1 / 1000000) (by rw [s4]; grind)
  have k1 := N.are.cl.mul ab1.cl N.are.bd ab1.bd
  have k2 := N.aim.cl.mul ab2.cl N.aim.bd ab2.bd
  have k3 := N.are.cl.mul ab2.cl N.are.bd ab2.bd
  have k4 := N.aim.cl.mul ab1.cl N.aim.bd ab1.bd
  have w01 := nm_one
  have w00 := nm_zero
  obtain ⟨D2, a2, nD2, _, vD2⟩ := apart_near am1.nm am2.nm w01.1 w00.1 (1 / 100000) (by have := am1.cl; rw [w01.2]; clear k3 k4 n1' lo1 hi1 cvr cvi; unfold Cl at *; constructor <;> grind) (by have := am2.cl; rw [w00.2]; clear k1 k2 n1' lo1 hi1 cvr cvi; unfold Cl at *; constructor <;> grind) (by grind)
  have o2 := not_gt nD2 C.1 (by grind)
  clear k1 k2 k3 k4
  -- a speed keeps its length
  have b1 := I.bu.prod N.are.bd
  have b2 := I.bv.prod N.aim.bd
  have b3 := I.bu.prod N.aim.bd
  have b4 := I.bv.prod N.are.bd
  obtain ⟨L3, l3, n3⟩ := long256 nvr nvi (by clear b3 b4 cvi; unfold Cl at *; constructor <;> grind) (by clear b1 b2 cvr; unfold Cl at *; constructor <;> grind)
  have n3' := n3.near cvr cvi
  obtain ⟨L4, l4', n4⟩ := long2 I.P.hu I.P.hv (I.bu.mono (by grind)) (I.bv.mono (by grind))
  have e34 : (V single u * X - V single v * Y) * (V single u * X - V single v * Y) + (V single u * Y + V single v * X) * (V single u * Y + V single v * X) = V single u * V single u + V single v * V single v := by
    have : (V single u * X - V single v * Y) * (V single u * X - V single v * Y) + (V single u * Y + V single v * X) * (V single u * Y + V single v * X) = (V single u * V single u + V single v * V single v) * (X * X + Y * Y) := by grind
    rw [this, id]; grind
  rw [e34] at n3'
  have c34 := n3'.gap n4 (by grind) (by grind)
  obtain ⟨D3, w3, nD3, vD3⟩ := widen_V n3.nm
  obtain ⟨D4, w4, nD4, vD4⟩ := widen_V n4.nm
  obtain ⟨G3, g3, o3⟩ := gap_small1 nD3 nD4 (by rw [vD3, vD4]; exact c34.mono (by grind))
  clear b1 b2 b3 b4 cvr cvi n3' e34 c34 n1' lo1 hi1
  -- two kicks
  have u8 : p2 8 = 256 := by decide +kernel
  have u9 : p2 9 = 512 := by decide +kernel
  have u10 : p2 10 = 1024 := by decide +kernel
  have s8 : ulp single 8 = 1 / 65536 := by decide +kernel
  have s9 : ulp single 9 = 1 / 32768 := by decide +kernel
  have s10 : ulp single 10 = 1 / 16384 := by decide +kernel
  have l10 : ulp double 10 = 1 / 8796093022208 := by decide +kernel
  obtain ⟨c, kx, ky, K⟩ := kick_near H I.nfx I.nfy 24 I.bfx I.bfy 8 (ex_single (by decide) (by decide)) (by rw [u8]; grind)
  have mm1 := I.bfx.prod K.bc
  have mm2 := I.bfy.prod K.bc
  have bkx : Cl (V single kx) 0 145 := by have := K.ckx; rw [s8] at this; unfold Cl at *; constructor <;> grind
  have bky : Cl (V single ky) 0 145 := by have := K.cky; rw [s8] at this; unfold Cl at *; constructor <;> grind
  obtain ⟨zr, zi, zx, zy, zt, za1, za2, zc1, zc2⟩ := turn_zero H
  obtain ⟨pr, pi, hp, npr, npi, cp1, cp2⟩ := push_near K.w zt I.P.hu I.P.hv K.nkx K.nky 1 145 147 I.bu I.bv bkx bky za1 za2 8 (ex_single (by decide) (by decide)) (by rw [u8]; grind) (by rw [s8]; grind) 10 (ex_double (by decide) (by decide)) (by rw [u10]; grind) (by rw [l10]; grind) 10 (ex_single (by decide) (by decide)) (by rw [u10]; grind) (by rw [s10]; grind) (1 / 4000) (by rw [s8, l10, s10]; grind)
  obtain ⟨s1, z1, as1⟩ := (Ap.self I.P.hu I.bu).add good_single (Ap.self K.nkx bkx) 8 (ex_single (by decide) (by decide)) (e' := 1 / 65536) (B' := 146) (by rw [u8]; grind) (by rw [s8]; grind) (by grind)
  obtain ⟨s2, z2, as2⟩ := (Ap.self I.P.hv I.bv).add good_single (Ap.self K.nky bky) 8 (ex_single (by decide) (by decide)) (e' := 1 / 65536) (B' := 146) (by rw [u8]; grind) (by rw [s8]; grind) (by grind)
  obtain ⟨y1, z3, ay1⟩ := as1.add good_single (Ap.self K.nkx bkx) 9 (ex_single (by decide) (by decide)) (e' := 3 / 65536) (B' := 291) (by rw [u9]; grind) (by rw [s9]; grind) (by grind)
  obtain ⟨y2, z4, ay2⟩ := as2.add good_single (Ap.self K.nky bky) 9 (ex_single (by decide) (by decide)) (e' := 3 / 65536) (B' := 291) (by rw [u9]; grind) (by rw [s9]; grind) (by grind)
  have r1 := as1.bd.prod zc1.zero_of
  have r2 := as2.bd.prod zc2
  have r3 := as1.bd.prod zc2
  have r4 := as2.bd.prod zc1.zero_of
  obtain ⟨D7, a7, nD7, _, vD7⟩ := apart_near npr npi ay1.nm ay2.nm (1 / 3000) (by have := ay1.cl; clear r3 r4 cp2 mm1 mm2; unfold Cl at *; constructor <;> grind) (by have := ay2.cl; clear r1 r2 cp1 mm1 mm2; unfold Cl at *; constructor <;> grind) (by grind)
  obtain ⟨L8, l8, n8⟩ := long256 K.nkx K.nky (bkx.mono (by grind)) (bky.mono (by grind))
  have q1 := bkx.prod bkx
  have q2 := bky.prod bky
  have hi8 := n8.high 512 (by grind) (by clear r1 r2 r3 r4 cp1 cp2 mm1 mm2; unfold Cl at q1 q2; grind)
  obtain ⟨D8, a8, r8, w8, y8, x8, nr8, vr8⟩ := toler n8.nm n8.pos (by grind)
  have p8 := n8.pos
  have o7 := is_lt nD7 nr8 (by grind)
  have o8 : (FloatKind.f32.format.order P P == some .eq) = true := by
    rw [show FloatKind.f32.format = single from rfl, V_eq H.nP H.nP]; exact decide_eq_true rfl
  exact ⟨tr, ti, br, bi, vr, vi, L1, D1, G1, ar, ai, D2, L3, D3, L4, D4, G3, kx, ky, pr, pi, P, s1, s2, y1, y2, D7, L8, D8, a8, r8,
    N.w, N.are.nm, N.aim.nm, hb, (neg32_V I.nmag).1, ab1.nm, ab2.nm, hp3, nvr, nvi, l1, w1, g1, o1, m2, a2, o2, l3, w3, l4', w4, g3, o3, K.w, K.nkx, K.nky, hp, npr, npi, H.pull, H.nP, z1, z2, z3, z4, a7, l8, w8, y8, x8, o7, o8⟩

theorem cross_any {x y u v q m mag tick fx fy : Nat} (I : PIn x y u v q m mag tick fx fy) (hμ : 1 / 8 ≤ V single mag ∨ V single mag ≤ -(1 / 8)) : ∃ cx cy wr wi D5 L5 D6 s5 r5, CTold q m mag tick fx fy cx cy wr wi D5 L5 D6 s5 r5 := by
  obtain ⟨P, h, H⟩ := ph_near I.P.hq I.P.hm I.ntick I.bq I.m0 I.m1 I.btick
  obtain ⟨t, tr, ti, br, bi, X, Y, N, _, _, _⟩ := turn_near H I.nmag I.bmag
  have fin : ∀ (cx cy wr wi : Nat) (e e1 : Rat), CrossN q m fx fy mag tick cx cy wr wi e e1 → e ≤ 1 → (∀ L, LongW cx cy L → Len L (V single cx * V single cx + V single cy * V single cy) (1 / 8000) → 2 * e + 1 / 500000 ≤ 98 / 100000 * (1 + V single L)) → ∃ cx cy wr wi D5 L5 D6 s5 r5, CTold q m mag tick fx fy cx cy wr wi D5 L5 D6 s5 r5 := by
    intro cx cy wr wi e e1 T he hL
    obtain ⟨D5, a5, nD5, _, vD5⟩ := apart_near T.nwr T.nwi T.ncx T.ncy e T.cr T.ci he
    obtain ⟨L5, l5, n5⟩ := long256 T.ncx T.ncy T.bx T.bY
    have q1 := T.bx.prod T.bx
    have q2 := T.bY.prod T.bY
    have hi5 := n5.high 512 (by grind) (by unfold Cl at q1 q2; grind)
    obtain ⟨D6, s5, r5, w6, y6, x6, nr5, vr5⟩ := toler n5.nm n5.pos (by grind)
    have o5 := not_gt nD5 nr5 (by have := hL L5 l5 n5; grind)
    exact ⟨cx, cy, wr, wi, D5, L5, D6, s5, r5, T.w, T.ncx, T.ncy, T.p, T.nwr, T.nwi, a5, l5, w6, y6, x6, o5⟩
  have bm := I.bmag
  by_cases hs : Cl (V single fx) 0 3 ∧ Cl (V single fy) 0 3
  · have u5 : p2 5 = 32 := by decide +kernel
    have u6 : p2 6 = 64 := by decide +kernel
    have u8 : p2 8 = 256 := by decide +kernel
    have s5 : ulp single 5 = 1 / 524288 := by decide +kernel
    have s6 : ulp single 6 = 1 / 262144 := by decide +kernel
    have s8 : ulp single 8 = 1 / 65536 := by decide +kernel
    have l8 : ulp double 8 = 1 / 35184372088832 := by decide +kernel
    obtain ⟨cx, cy, wr, wi, T⟩ := cross_push H N I.nfx I.nfy I.nmag I.bmag hμ 3 hs.1 hs.2 (by grind) 5 (ex_single (by decide) (by decide)) (by rw [u5]; grind) (1 / 500000) (by rw [s5]; grind) (by grind) 5 (ex_single (by decide) (by decide)) (by rw [u5]; grind) (by rw [s5]; grind) 6 (ex_single (by decide) (by decide)) (by rw [u6]; grind) 43 (by rw [s6]; grind) 8 (ex_double (by decide) (by decide)) (by rw [u8]; grind) (by rw [l8]; grind) 8 (ex_single (by decide) (by decide)) (by rw [u8]; grind) (by rw [s8]; grind) (1 / 5000) (by rw [s6, l8, s8, s5]; grind)
    exact fin cx cy wr wi _ _ T (by grind) (fun L hL n => by have := n.pos; grind)
  · have u8 : p2 8 = 256 := by decide +kernel
    have u9 : p2 9 = 512 := by decide +kernel
    have u11 : p2 11 = 2048 := by decide +kernel
    have s8 : ulp single 8 = 1 / 65536 := by decide +kernel
    have s9 : ulp single 9 = 1 / 32768 := by decide +kernel
    have s11 : ulp single 11 = 1 / 8192 := by decide +kernel
    have l11 : ulp double 11 = 1 / 4398046511104 := by decide +kernel
    obtain ⟨cx, cy, wr, wi, T⟩ := cross_push H N I.nfx I.nfy I.nmag I.bmag hμ 24 I.bfx I.bfy (by grind) 8 (ex_single (by decide) (by decide)) (by rw [u8]; grind) (1 / 60000) (by rw [s8]; grind) (by grind) 8 (ex_single (by decide) (by decide)) (by rw [u8]; grind) (by rw [s8]; grind) 9 (ex_single (by decide) (by decide)) (by rw [u9]; grind) 337 (by rw [s9]; grind) 11 (ex_double (by decide) (by decide)) (by rw [u11]; grind) (by rw [l11]; grind) 11 (ex_single (by decide) (by decide)) (by rw [u11]; grind) (by rw [s11]; grind) (1 / 750) (by rw [s9, l11, s11, s8]; grind)
    refine fin cx cy wr wi _ _ T (by grind) (fun L hL n => ?_)
    have n0 := n.pos
    have c1 := n.near (Cl.refl (V single cx) (e := 0) (by grind)) (Cl.refl (V single cy) (e := 0) (by grind))
    obtain ⟨ι, hι, ex, ey⟩ := T.lx
    -- a part of the field is greater than 3: so is a part of the crossed speed
    have sx := bself_nonneg (V single cx)
    have sy := bself_nonneg (V single cy)
    have lowx : ∀ z : Rat, 0 ≤ z → (z ≤ V single cx ∨ z ≤ -V single cx ∨ z ≤ V single cy ∨ z ≤ -V single cy) → z ≤ V single L + 1 / 8000 := fun z z0 hz => n.low z z0 (by
      have sq : ∀ s : Rat, (z ≤ s ∨ z ≤ -s) → z * z ≤ s * s := fun s hs => by
        rcases hs with h | h
        · have := sq_mono z0 h; grind
        · have := sq_mono z0 h; grind
      rcases hz with h | h | h | h
      · have := sq _ (.inl h); grind
      · have := sq _ (.inr h); grind
      · have := sq _ (.inl h); grind
      · have := sq _ (.inr h); grind)
    have big : ∀ F : Rat, ¬ Cl F 0 3 → (3 ≤ F * ι ∨ 3 ≤ -(F * ι)) := fun F hF => by
      have hF' : 3 < F ∨ 3 < -F := by unfold Cl at hF; grind
      have eF : F * ι * V single mag = F := by rw [Rat.mul_assoc, hι, Rat.mul_one]
      generalize F * ι = g at *
      by_cases h1 : 3 ≤ g
      · exact .inl h1
      · by_cases h2 : 3 ≤ -g
        · exact .inr h2
        · exfalso
          have bg : Cl g 0 3 := by unfold Cl; constructor <;> grind
          have := bg.prod bm
          rw [eF] at this
          unfold Cl at this
          grind
    have : 3 - 1 / 60000 ≤ V single L + 1 / 8000 := by
      refine lowx _ (by grind) ?_
      by_cases hx : Cl (V single fx) 0 3
      · have hy : ¬ Cl (V single fy) 0 3 := fun h => hs ⟨hx, h⟩
        have := big _ hy
        unfold Cl at ex
        grind
      · have := big _ hx
        unfold Cl at ey
        grind
    grind
end Go.Proofs.Ytdonmboidpppmaa
