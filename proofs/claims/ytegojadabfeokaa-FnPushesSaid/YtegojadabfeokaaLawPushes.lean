/- The law FnPushes by its walk: a turn has the length 1, nearly, and is undone by the opposite magnet, nearly; without a field a speed keeps its length; what field and magnet push nowhere stays; without a magnet a push is two kicks. No condition but that the bytes can be read. -/
import Derived.Test.YtegojadabfeokaaBd
import Derived.Test.YtegojadabfeokaaBj
import Derived.Test.YtegojadabfeokaaBk
namespace Go.Proofs.Ytegojadabfeokaa
open Go.RowKit Go.Sort Ieee
set_option linter.unusedSimpArgs false
set_option linter.unusedVariables false

theorem baft {w w' : World} {a : Option Addr} {n : Nat} (h : Bytes w a n) (hb : Below w.heap.size w w') : Bytes w' a n :=
  h.later hb (fun b o e hn => by
    obtain ⟨b', o', e', hl, _⟩ := h 0 hn
    rw [e] at e'
    injection e' with e'
    injection e' with e'
    omega)
theorem p2_of (k : Nat) (hk : k ≤ 3) : p2 (-((1 : Nat) : Int)) = 1 / 2 ∧ p2 (-((2 : Nat) : Int)) = 1 / 4 ∧ p2 (-((3 : Nat) : Int)) = 1 / 8 := by decide +kernel
theorem wd8 (n : Int) (h0 : -200 ≤ n) (h1 : n ≤ 200) : Nm single (wd single 3 n) ∧ V single (wd single 3 n) = (n : Rat) / 8 := by
  obtain ⟨a, b⟩ := V_wd (f := single) fit_single 3 n (by decide) (by show n.natAbs < 16777216; omega)
  refine ⟨a, ?_⟩
  rw [b, (p2_of 0 (by omega)).2.2]; grind
theorem wd8_bd (n : Int) (K : Int) (h0 : -K ≤ n) (h1 : n ≤ K) (hK : K ≤ 200) : Cl (V single (wd single 3 n)) 0 ((K : Rat) / 8) := by
  rw [(wd8 n (by omega) (by omega)).2]
  have a := Rat.intCast_le_intCast.2 h0
  have b := Rat.intCast_le_intCast.2 h1
  rw [Rat.intCast_neg] at a
  unfold Cl
  constructor <;> grind
theorem pin_of (p : GP) (hp : p.ok) (mg tk fx fy : Int) (h1 : -8 ≤ mg ∧ mg ≤ 8) (h2 : -8 ≤ tk ∧ tk ≤ 8) (h3 : -64 ≤ fx ∧ fx ≤ 191) (h4 : -64 ≤ fy ∧ fy ≤ 191) :
    PIn (wd single 3 p.x) (wd single 3 p.y) (wd single 3 p.u) (wd single 3 p.v) (wd single 1 p.q) (wd single 2 p.m) (wd single 3 mg) (wd single 3 tk) (wd single 3 fx) (wd single 3 fy) := by
  obtain ⟨⟨x0, x1⟩, ⟨y0, y1⟩, ⟨u0, u1⟩, ⟨v0, v1⟩, ⟨q0, q1⟩, ⟨m0, m1⟩⟩ := hp
  obtain ⟨nq, vq⟩ := V_wd (f := single) fit_single 1 p.q (by decide) (by show p.q.natAbs < 16777216; omega)
  obtain ⟨nm, vm⟩ := V_wd (f := single) fit_single 2 p.m (by decide) (by show p.m.natAbs < 16777216; omega)
  rw [(p2_of 0 (by omega)).1] at vq
  rw [(p2_of 0 (by omega)).2.1] at vm
  have qa := Rat.intCast_le_intCast.2 q0
  have qb := Rat.intCast_le_intCast.2 q1
  have ma := Rat.intCast_le_intCast.2 m0
  have mb := Rat.intCast_le_intCast.2 m1
  have e4 : ((-4 : Int) : Rat) = -4 := rfl
  have e4' : ((4 : Int) : Rat) = 4 := rfl
  have e1 : ((1 : Int) : Rat) = 1 := rfl
  have e8 : ((8 : Int) : Rat) = 8 := rfl
  have e192 : ((192 : Int) : Rat) = 192 := rfl
  rw [e4] at qa
  rw [e4'] at qb
  rw [e1] at ma
  rw [e8] at mb
  have b8 := fun (n : Int) (a : -8 ≤ n) (b : n ≤ 8) => (wd8_bd n 8 a b (by omega)).mono (e' := 1) (by rw [e8]; grind)
  have b24 := fun (n : Int) (a : -192 ≤ n) (b : n ≤ 192) => (wd8_bd n 192 a b (by omega)).mono (e' := 24) (by rw [e192]; grind)
  exact ⟨⟨by rw [vm]; grind, (wd8 _ (by omega) (by omega)).1, (wd8 _ (by omega) (by omega)).1, (wd8 _ (by omega) (by omega)).1, (wd8 _ (by omega) (by omega)).1, nq, nm⟩,
    b8 _ u0 u1, b8 _ v0 v1, by rw [vq]; unfold Cl; constructor <;> grind, by rw [vm]; grind, by rw [vm]; grind,
    (wd8 _ (by omega) (by omega)).1, b8 _ h1.1 h1.2, (wd8 _ (by omega) (by omega)).1, b8 _ h2.1 h2.2, (wd8 _ (by omega) (by omega)).1, (wd8 _ (by omega) (by omega)).1, b24 _ (by omega) (by omega), b24 _ (by omega) (by omega)⟩
theorem mag_cases (mg : Int) (h1 : -8 ≤ mg ∧ mg ≤ 8) : (wd single 3 mg = 0) ∨ ((1 / 8 ≤ V single (wd single 3 mg) ∨ V single (wd single 3 mg) ≤ -(1 / 8)) ∧ ¬ (FloatKind.f32.format.order (wd single 3 mg) 0 = some .eq)) := by
  by_cases h0 : mg = 0
  · exact .inl (by rw [h0, wd_zero])
  · right
    obtain ⟨n, v⟩ := wd8 mg (by omega) (by omega)
    have hv : 1 / 8 ≤ V single (wd single 3 mg) ∨ V single (wd single 3 mg) ≤ -(1 / 8) := by
      rw [v]
      rcases Int.lt_or_gt_of_ne h0 with h | h
      · have := Rat.intCast_le_intCast.2 (show mg ≤ -1 by omega)
        have e : ((-1 : Int) : Rat) = -1 := rfl
        rw [e] at this
        right; grind
      · have := Rat.intCast_le_intCast.2 (show 1 ≤ mg by omega)
        have e : ((1 : Int) : Rat) = 1 := rfl
        rw [e] at this
        left; grind
    refine ⟨hv, fun h => ?_⟩
    have z := nm_zero
    have o := order_V n z.1
    rw [show FloatKind.f32.format.order (wd single 3 mg) 0 = single.order (wd single 3 mg) 0 from rfl] at h
    rw [o, z.2] at h
    grind

theorem prod_zero {x y u v q m mag tick fx fy : Nat} (I : PIn x y u v q m mag tick fx fy) : ∃ p r, ProdW fx fy 0 2147483648 p r ∧ Nm double p ∧ Nm double r := by
  have z := nm_zero
  have nz := neg32_V z.1
  rw [show Op.negFloat .f32 0 = 2147483648 from by decide +kernel] at nz
  have u6 : p2 6 = 64 := by decide +kernel
  have l6 : ulp double 6 = 1 / 140737488355328 := by decide +kernel
  obtain ⟨p, r, h, a, b⟩ := prod_near (A := 24) (C := 1) I.nfx I.nfy z.1 nz.1 I.bfx I.bfy (by rw [z.2]; unfold Cl; constructor <;> grind) (by rw [nz.2, z.2]; unfold Cl; constructor <;> grind) 6 (ex_double (by decide) (by decide)) (by rw [u6]; grind) (by rw [l6]; grind) (η := 1) (by rw [l6]; grind)
  exact ⟨p, r, h, a.nm, b.nm⟩

set_option maxHeartbeats 16000000 in
set_option maxRecDepth 100000 in
theorem lawPushes_any (a1 a2 : Option Addr) (n1 c1 n2 c2 : Nat) (w : World) (hb1 : Bytes w a1 n1) (hb2 : Bytes w a2 n2) :
    Calls Try.prog 3 #[.slice a1 n1 c1, .slice a2 n2 c2] w fun e w' => e = .returned (.bool true) ∧ Below w.heap.size w w' := by
  have LO := keep (fun w => r8Long_any a1 a2 n1 c1 n2 c2 w)
  cases hl : (decide (48 < n1) || decide (48 < n2))
  case true =>
    rw [hl] at LO
    clear hl hb1 hb2
    go_enter Try.func3, Try.ntmps3
    go_wp2_with fail
    refine (LO.out _).mono ?_
    rintro e w' ⟨rfl, rfl⟩
    go_wp2_with fail
    go_ret
    exact ⟨rfl, Below.refl _ _⟩
  case false =>
    rw [hl] at LO
    have RP := keep (R8Particle_ok a1 n1 c1 w hb1)
    have HB2 := keep hb2
    clear hl hb1 hb2
    go_enter Try.func3, Try.ntmps3
    go_wp2_with fail
    refine (LO.out _).mono ?_
    rintro e wz ⟨rfl, hwz⟩
    have hwz := hwz.symm
    subst hwz
    go_wp2_with fail
    refine RP.out.mono ?_
    rintro e w1 ⟨p, hp, rfl, hb⟩
    have IN := keep (fun mg tk fx fy => pin_of p hp mg tk fx fy)
    unfold GP.agg
    generalize wd single 3 p.x = x at *
    generalize wd single 3 p.y = y at *
    generalize wd single 3 p.u = u at *
    generalize wd single 3 p.v = v at *
    generalize wd single 1 p.q = q at *
    generalize wd single 2 p.m = m at *
    have P1 := keep (Has.made w1 27 #[.complex .f32 x y, .complex .f32 u v, .float .f32 q, .float .f32 m])
    have B1 := keep (hb.alloc hb.size (.cells #[.complex .f32 x y, .complex .f32 u v, .float .f32 q, .float .f32 m] 27))
    have HB := keep (baft HB2.out B1.out)
    clear p hp RP LO hb HB2
    go_wp2_with fail
    generalize w1.alloc (.cells #[.complex .f32 x y, .complex .f32 u v, .float .f32 q, .float .f32 m] 27) = W1 at *
    refine (R8Number_ok a2 n2 c2 0 W1 HB.out (by omega)).mono ?_
    rintro e w' ⟨mg, hmg, rfl, hw⟩
    have hw := hw.symm
    subst hw
    go_wp2_with fail
    refine (R8Number_ok a2 n2 c2 1 _ HB.out (by omega)).mono ?_
    rintro e w' ⟨tk, htk, rfl, hw⟩
    have hw := hw.symm
    subst hw
    go_wp2_with fail
    refine (R8Place_ok a2 n2 c2 2 _ HB.out (by omega)).mono ?_
    rintro e w2 ⟨fx, fy, hfx, hfy, rfl, hb⟩
    have I := keep (IN.out mg tk fx fy hmg htk hfx hfy)
    have MC := keep (mag_cases mg hmg)
    clear IN hmg htk hfx hfy
    generalize wd single 3 mg = mag at *
    generalize wd single 3 tk = tick at *
    generalize wd single 3 fx = fx at *
    generalize wd single 3 fy = fy at *
    have P2 := keep (P1.out.after hb)
    have B2 := keep (B1.out.trans (hb.mono B1.out.size))
    clear P1 B1 HB hb
    obtain ⟨tr, ti, br, bi, vr, vi, L1, D1, G1, ar, ai, D2, L3, D3, L4, D4, G3, kx, ky, pr, pi, P, s1, s2, h1, h2, D7, L8, D8, a8, r8, T⟩ := told_any I.out
    have T := keep T
    have k := P2.out.cells
    go_wp2_with fail
    refine (bTurnOf I.out.P I.out.nmag I.out.ntick T.out.t1 T.out.ntr T.out.nti _).mono ?_
    rintro e w3 ⟨rfl, hb⟩
    have P3 := keep (P2.out.after hb)
    have B3 := keep (B2.out.trans (hb.mono B2.out.size))
    clear P2 B2 hb k
    have k := P3.out.cells
    have ng := znegf mag
    go_wp2_with fail
    refine (bTurnOf I.out.P T.out.nneg I.out.ntick T.out.t2 T.out.nbr T.out.nbi _).mono ?_
    rintro e w4 ⟨rfl, hb⟩
    have P4 := keep (P3.out.after hb)
    have B4 := keep (B3.out.trans (hb.mono B3.out.size))
    clear P3 B3 hb k ng
    have k := P4.out.cells
    go_wp2_with fail
    refine (bPushSpeed I.out.P nm_zero.1 nm_zero.1 I.out.nmag I.out.ntick T.out.t3 T.out.nvr T.out.nvi _).mono ?_
    rintro e w5 ⟨rfl, hb⟩
    have P5 := keep (P4.out.after hb)
    have B5 := keep (B4.out.trans (hb.mono B4.out.size))
    clear P4 B4 hb k
    have k1 := cell_regrown (P5.out.cells 1)
    have C1 := keep (fun w d os => Calls.regrown_of (toB (bLong T.out.l1 (grow (redrawn w d) os))))
    have C2 := keep (fun w d os => Calls.regrown_of (toB (bGap T.out.g1 (grow (redrawn w d) os))))
    have C3 := keep (fun w d os => Calls.regrown_of (toB (bMul T.out.m2 (grow (redrawn w d) os))))
    have C4 := keep (fun w d os => Calls.regrown_of (toB (bApart T.out.a2 (grow (redrawn w d) os))))
    have C5 := keep (fun w d os => Calls.regrown_of (toB (bLong T.out.l3 (grow (redrawn w d) os))))
    have C6 := keep (fun w d os => Calls.regrown_of (toB (bLong T.out.l4 (grow (redrawn w d) os))))
    have C7 := keep (fun w d os => Calls.regrown_of (toB (bGap T.out.g3 (grow (redrawn w d) os))))
    have f1 := zconv32 _ _ T.out.w1
    have f3 := zconv32 _ _ T.out.w3
    have f4 := zconv32 _ _ T.out.w4
    have o1 := T.out.o1
    have o2 := T.out.o2
    have o3 := T.out.o3
    go_wp2_with fail
    refine wp_region_quiet_below (by as_aux_lemma => kernel_rfl) (by as_aux_lemma => kernel_rfl) ?_
    repeat (any_goals (go_big_quiet_step (first | (with_reducible exact C1.out _ _ _) | (with_reducible exact C2.out _ _ _) | (with_reducible exact C3.out _ _ _) | (with_reducible exact C4.out _ _ _) | (with_reducible exact C5.out _ _ _) | (with_reducible exact C6.out _ _ _) | (with_reducible exact C7.out _ _ _))))
    refine wpQuiet_nil ?_
    intro w6 hw6
    obtain ⟨⟨d6, os6⟩, rfl⟩ := hw6
    have hb6 := below_regrown w5 d6 os6
    generalize grow (redrawn w5 d6) os6 = w6 at *
    have P6 := keep (P5.out.after hb6)
    have B6 := keep (B5.out.trans (hb6.mono B5.out.size))
    clear P5 B5 hb6 k1 C1 C2 C3 C4 C5 C6 C7 f1 f3 f4 o1 o2 o3
    go_wp2_with fail
    rcases MC.out with hz | ⟨hμ, hne⟩
    · subst hz
      obtain ⟨zp, zr, hzp, np, nr⟩ := prod_zero I.out
      have oz : FloatKind.f32.format.order 0 0 = some .eq := by decide +kernel
      have CZ := keep (bCrossZ I.out.nfx I.out.nfy hzp np nr w6)
      clear hzp np nr MC
      refine CZ.out.mono ?_
      rintro e w' ⟨rfl, mz, rfl⟩
      have PQ := keep (P6.out.after (Below.drewN w6.heap.size w6 mz))
      have BQ := keep (Below.drewN_of B6.out mz)
      clear P6 B6 CZ
      generalize w6.drewN mz = w7 at *
      have k := PQ.out.cells
      go_wp2_with fail
      refine (bKickOf I.out.P I.out.nfx I.out.nfy I.out.ntick T.out.k T.out.nkx T.out.nky _).mono ?_
      rintro e wa ⟨rfl, hb⟩
      have PA := keep (PQ.out.after hb)
      have BA := keep (BQ.out.trans (hb.mono BQ.out.size))
      clear PQ BQ hb k
      have k := PA.out.cells
      go_wp2_with fail
      refine (bPushSpeed I.out.P I.out.nfx I.out.nfy nm_zero.1 I.out.ntick T.out.p T.out.npr T.out.npi _).mono ?_
      rintro e wb ⟨rfl, hb⟩
      have PB := keep (PA.out.after hb)
      have BB := keep (BA.out.trans (hb.mono BA.out.size))
      clear PA BA hb k
      have k := PB.out.cells
      go_wp2_with fail
      refine (bPullOf I.out.P T.out.pull T.out.nP _).mono ?_
      rintro e wc ⟨rfl, hb⟩
      have PC := keep (PB.out.after hb)
      have BC := keep (BB.out.trans (hb.mono BB.out.size))
      clear PB BB hb k
      have k := PC.out.cells
      have g1 := brun_cadd T.out.z1 T.out.z2
      have g2 := brun_cadd T.out.z3 T.out.z4
      have g3 := zconv32 _ _ T.out.w8
      have g4 := zrun T.out.y8
      have g5 := zrun T.out.x8
      have g6 := zrun T.out.pull
      have g7 := T.out.o7
      have g8 := T.out.o8
      have CA := keep (fun w => bApart T.out.a7 w)
      have CL := keep (fun w => bLong T.out.l8 w)
      go_wp2_with (first
        | (go_at_call 14; refine (CA.out _).mono ?_; rintro e w' ⟨rfl, hw⟩; have hw := hw.symm; subst hw)
        | (go_at_call 13; refine (CL.out _).mono ?_; rintro e w' ⟨rfl, hw⟩; have hw := hw.symm; subst hw))
      go_ret
      exact ⟨rfl, BC.out⟩
    · obtain ⟨cx, cy, wr, wi, D5, L5, D6, s5, r5, X⟩ := cross_any I.out hμ
      have X := keep X
      have CN := keep (bCross I.out.nfx I.out.nfy I.out.nmag X.out.w X.out.ncx X.out.ncy w6)
      have CP := keep (PNm.mk I.out.P.p I.out.P.hx I.out.P.hy X.out.ncx X.out.ncy I.out.P.hq I.out.P.hm)
      clear MC hμ
      have hne2 : (FloatKind.f32.format.order mag 0 == some .eq) = false := by simpa using hne
      have hne3 : (FloatKind.f32.format.order mag 0 != some .eq) = true := by simpa using hne
      refine CN.out.mono ?_
      rintro e w' ⟨rfl, mz, rfl⟩
      have P7 := keep (P6.out.after (Below.drewN w6.heap.size w6 mz))
      have B7 := keep (Below.drewN_of B6.out mz)
      clear P6 B6 CN
      generalize w6.drewN mz = w7 at *
      have k := P7.out.cells
      have uH := (Has.made w7 27 #[.complex .f32 x y, .complex .f32 u v, .float .f32 q, .float .f32 m]).free
      have P8 := keep (P7.out.after ((Below.refl w7.heap.size w7).alloc (Nat.le_refl _) (.cells #[.complex .f32 x y, .complex .f32 cx cy, .float .f32 q, .float .f32 m] 27)))
      have B8 := keep (B7.out.alloc B7.out.size (.cells #[.complex .f32 x y, .complex .f32 cx cy, .float .f32 q, .float .f32 m] 27))
      clear P7 B7
      go_wp2_with fail
      refine (bPushSpeed CP.out I.out.nfx I.out.nfy I.out.nmag I.out.ntick X.out.p X.out.nwr X.out.nwi _).mono ?_
      rintro e w9 ⟨rfl, hb⟩
      have PQ := keep (P8.out.after hb)
      have BQ := keep (B8.out.trans (hb.mono B8.out.size))
      clear P8 B8 hb k uH
      have k := PQ.out.cells
      have C5 := keep (fun w => bApart X.out.a5 w)
      have C6 := keep (fun w => bLong X.out.l5 w)
      have f3 := zconv32 _ _ X.out.w6
      have f4 := zrun X.out.y6
      have f5 := zrun X.out.x6
      have f7 := X.out.o5
      go_wp2_with (first
        | (go_at_call 14; refine (C5.out _).mono ?_; rintro e w' ⟨rfl, hw⟩; have hw := hw.symm; subst hw)
        | (go_at_call 13; refine (C6.out _).mono ?_; rintro e w' ⟨rfl, hw⟩; have hw := hw.symm; subst hw))
      clear C5 C6 f3 f4 f5 f7
      refine (bKickOf I.out.P I.out.nfx I.out.nfy I.out.ntick T.out.k T.out.nkx T.out.nky _).mono ?_
      rintro e wa ⟨rfl, hb⟩
      have PA := keep (PQ.out.after hb)
      have BA := keep (BQ.out.trans (hb.mono BQ.out.size))
      clear PQ BQ hb k
      have k := PA.out.cells
      go_wp2_with fail
      refine (bPushSpeed I.out.P I.out.nfx I.out.nfy nm_zero.1 I.out.ntick T.out.p T.out.npr T.out.npi _).mono ?_
      rintro e wb ⟨rfl, hb⟩
      have PB := keep (PA.out.after hb)
      have BB := keep (BA.out.trans (hb.mono BA.out.size))
      clear PA BA hb k
      have k := PB.out.cells
      go_wp2_with fail
      refine (bPullOf I.out.P T.out.pull T.out.nP _).mono ?_
      rintro e wc ⟨rfl, hb⟩
      have PC := keep (PB.out.after hb)
      have BC := keep (BB.out.trans (hb.mono BB.out.size))
      clear PB BB hb k
      have k := PC.out.cells
      have g1 := brun_cadd T.out.z1 T.out.z2
      have g2 := brun_cadd T.out.z3 T.out.z4
      have g3 := zconv32 _ _ T.out.w8
      have g4 := zrun T.out.y8
      have g5 := zrun T.out.x8
      have g6 := zrun T.out.pull
      have g7 := T.out.o7
      have g8 := T.out.o8
      have CA := keep (fun w => bApart T.out.a7 w)
      have CL := keep (fun w => bLong T.out.l8 w)
      go_wp2_with (first
        | (go_at_call 14; refine (CA.out _).mono ?_; rintro e w' ⟨rfl, hw⟩; have hw := hw.symm; subst hw)
        | (go_at_call 13; refine (CL.out _).mono ?_; rintro e w' ⟨rfl, hw⟩; have hw := hw.symm; subst hw))
      go_ret
      exact ⟨rfl, BC.out⟩
end Go.Proofs.Ytegojadabfeokaa
