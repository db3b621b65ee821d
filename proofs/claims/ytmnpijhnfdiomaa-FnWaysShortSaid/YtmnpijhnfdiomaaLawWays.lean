/- The law FnWaysShort by its walk: a way leads from one place to the other, is the opposite of the way back, and is not longer than half of a side; opposite speeds have the opposite momentum and the same energy. No condition but that the bytes can be read. -/
import Derived.Test.YtmnpijhnfdiomaaId
import Derived.Test.YtmnpijhnfdiomaaLawShares
namespace Go.Proofs.Ytmnpijhnfdiomaa
open Go.RowKit Go.Sort Ieee
set_option linter.unusedSimpArgs false

set_option maxHeartbeats 8000000 in
set_option maxRecDepth 100000 in
theorem lawWays_any (a1 a2 : Option Addr) (n1 c1 n2 c2 : Nat) (w : World) (hb1 : Bytes w a1 n1) (hb2 : Bytes w a2 n2) :
    Calls Try.prog 5 #[.slice a1 n1 c1, .slice a2 n2 c2] w fun e w' => e = .returned (.bool true) ∧ Below w.heap.size w w' := by
  have LO := keep (fun w => r8Long_any a1 a2 n1 c1 n2 c2 w)
  cases hl : (decide (48 < n1) || decide (48 < n2))
  case true =>
    rw [hl] at LO
    clear hl hb1 hb2
    go_enter Try.func5, Try.ntmps5
    go_wp2_with fail
    refine (LO.out _).mono ?_
    rintro e w' ⟨rfl, rfl⟩
    go_wp2_with fail
    go_ret
    exact ⟨rfl, Below.refl _ _⟩
  case false =>
    rw [hl] at LO
    have GR := keep (R8Grid_ok a1 n1 c1 w hb1)
    have HB2 := keep hb2
    clear hl hb1 hb2
    go_enter Try.func5, Try.ntmps5
    go_wp2_with fail
    refine (LO.out _).mono ?_
    rintro e w' ⟨rfl, rfl⟩
    go_wp2_with fail
    refine GR.out.mono ?_
    rintro e w1 ⟨W, H, ⟨hs, hH6⟩, rfl, hb⟩
    have HS := keep hs
    have GV : gridV W H = .agg #[.int .i64 W, .int .i64 H] := rfl
    have P1 := keep (Has.made w1 25 #[.int .i64 W, .int .i64 H])
    have B1 := keep (hb.alloc hb.size (.cells #[.int .i64 W, .int .i64 H] 25))
    have HB1 := keep (HB2.out.aft B1.out)
    have PL := keep (R8Place_ok a2 n2 c2 0 (w1.alloc (.cells #[.int .i64 W, .int .i64 H] 25)) HB1.out (by omega))
    rw [GV]
    clear hb GV LO GR hs
    go_wp2_with fail
    refine PL.out.mono ?_
    rintro e w2 ⟨x1, y1, hx1, hy1, rfl, hb⟩
    have P2 := keep (P1.out.after hb)
    have B2 := keep (B1.out.trans (hb.mono B1.out.size))
    have PL2 := keep (R8Place_ok a2 n2 c2 2 w2 (HB2.out.aft B2.out) (by omega))
    clear hb PL P1 B1 HB1
    go_wp2_with fail
    refine PL2.out.mono ?_
    rintro e w3 ⟨x2, y2, hx2, hy2, rfl, hb⟩
    have p3 := P2.out.after hb
    have P3 := keep p3
    have cg := p3.cells
    have B3 := keep (B2.out.trans (hb.mono B2.out.size))
    have hp1 : PlaceOk x1 y1 := ⟨⟨by omega, by omega⟩, by omega, by omega⟩
    have hp2 : PlaceOk x2 y2 := ⟨⟨by omega, by omega⟩, by omega, by omega⟩
    obtain ⟨⟨hw4, hw7⟩, hh4, hh7⟩ := id HS.out
    have WB1 := keep (fun w => WayBetween_ok W H HS.out x1 y1 x2 y2 hp1 hp2 w)
    have WB2' := fun w => WayBetween_ok W H HS.out x2 y2 x1 y1 hp2 hp1 w
    rw [show md x1 W - md x2 W = -(md x2 W - md x1 W) by omega, show md y1 H - md y2 H = -(md y2 H - md y1 H) by omega, wayI_back, wayI_back] at WB2'
    have WB2 := keep WB2'
    have mw := md_way x1 x2 W
    have mh := md_way y1 y2 H
    obtain ⟨m1, m2⟩ := md_bounds x1 W hw4
    obtain ⟨m3, m4⟩ := md_bounds x2 W hw4
    obtain ⟨m5, m6⟩ := md_bounds y1 H hh4
    obtain ⟨m7, m8⟩ := md_bounds y2 H hh4
    obtain ⟨wx0, wx1⟩ := wayI_bound (md x2 W - md x1 W) W (by omega) (by omega)
    obtain ⟨wy0, wy1⟩ := wayI_bound (md y2 H - md y1 H) H (by omega) (by omega)
    generalize wayI (md x2 W - md x1 W) W = dx at *
    generalize wayI (md y2 H - md y1 H) H = dy at *
    have WP1' := fun w => WrapPlace_ok W H HS.out (x1 + dx) (y1 + dy) ⟨⟨by omega, by omega⟩, by omega, by omega⟩ w
    rw [mw, mh] at WP1'
    have WP1 := keep WP1'
    have WP2 := keep (fun w => WrapPlace_ok W H HS.out x2 y2 hp2 w)
    have FA := keep (run_cadd (fadd (k := 3) (a := x1) (b := dx) (by omega) (by omega) (by omega) (by omega)) (fadd (k := 3) (a := y1) (b := dy) (by omega) (by omega) (by omega) (by omega)))
    obtain ⟨q1, nq1, z1⟩ := side_facts W hw4 hw7
    obtain ⟨q2, nq2, z2⟩ := side_facts H hh4 hh7
    clear z1 z2
    have Q1 := keep (frun q1)
    have Q2 := keep (frun q2)
    have N1 := keep (run_neg nq1)
    have N2 := keep (run_neg nq2)
    have E1 := keep (order_wd_self 3 (md x2 W) (by omega) (by omega))
    have E2 := keep (order_wd_self 3 (md y2 H) (by omega) (by omega))
    have G1 := keep (not_gtr (k := 3) (a := dx) (b := 4 * (W : Int)) (by omega) (by omega) (by omega) wx1)
    have G2 := keep (not_lss (k := 3) (a := dx) (b := -(4 * (W : Int))) (by omega) (by omega) (by omega) wx0)
    have G3 := keep (not_gtr (k := 3) (a := dy) (b := 4 * (H : Int)) (by omega) (by omega) (by omega) wy1)
    have G4 := keep (not_lss (k := 3) (a := dy) (b := -(4 * (H : Int))) (by omega) (by omega) (by omega) wy0)
    have Z1 := keep (order_neg3 dx (-dx) (by omega) (by omega) (by omega))
    have Z2 := keep (order_neg3 dy (-dy) (by omega) (by omega) (by omega))
    clear hb PL2 P2 B2 hx1 hy1 hx2 hy2 hp1 hp2 WB2' mw mh m1 m2 m3 m4 m5 m6 m7 m8 wx0 wx1 wy0 wy1 WP1' q1 nq1 q2 nq2 p3 hw4 hw7 hh4 hh7
    unfold gridV placeV at *
    go_wp2_with fail
    refine (WB1.out _).mono ?_
    rintro e w4 ⟨rfl, hb⟩
    have p4 := P3.out.after hb
    clear cg
    have cg := p4.cells
    have P4 := keep p4
    have B4 := keep (B3.out.trans (hb.mono B3.out.size))
    clear hb p4 P3 B3 WB1
    go_wp2_with fail
    refine (WB2.out _).mono ?_
    rintro e w5 ⟨rfl, hb⟩
    have p5 := P4.out.after hb
    clear cg
    have cg := p5.cells
    have P5 := keep p5
    have B5 := keep (B4.out.trans (hb.mono B4.out.size))
    have fa := FA.out
    clear hb p5 P4 B4 WB2 FA
    go_wp2_with fail
    refine (WP1.out _).mono ?_
    rintro e w6 ⟨rfl, hb⟩
    have p6 := P5.out.after hb
    clear cg fa
    have cg := p6.cells
    have P6 := keep p6
    have B6 := keep (B5.out.trans (hb.mono B5.out.size))
    clear hb p6 P5 B5 WP1
    go_wp2_with fail
    refine (WP2.out _).mono ?_
    rintro e w7 ⟨rfl, hb⟩
    have p7 := P6.out.after hb
    clear cg
    have cg := p7.cells
    have P7 := keep p7
    have B7 := keep (B6.out.trans (hb.mono B6.out.size))
    have LI := keep (R8List_ok a2 n2 c2 w7 (HB2.out.aft B7.out))
    have q1 := Q1.out
    have q2 := Q2.out
    have n1r := N1.out
    have n2r := N2.out
    have e1 := E1.out
    have e2 := E2.out
    have g1 := G1.out
    have g2 := G2.out
    have g3 := G3.out
    have g4 := G4.out
    clear hb p7 P6 B6 WP2
    go_wp2_with fail
    refine LI.out.mono ?_
    rintro e w8 ⟨gs, v, hN, hok, rfl, hown, hb⟩
    clear cg q1 q2 n1r n2r e1 e2 g1 g2 g3 g4 Q1 Q2 N1 N2 E1 E2 G1 G2 G3 G4 LI P7
    have OK := keep hok
    have FX : gs.map GP.pd = gs.map (GP.tpd false) := List.map_congr_left fun p _ => (GP.tpd_false p).symm
    have FT : (gs.map (GP.tpd false)).map PD.turn = gs.map (GP.tpd true) := by
      rw [List.map_map]
      exact List.map_congr_left fun p _ => by rw [Function.comp_apply, GP.tpd_false, GP.tpd_true]
    have FB : (gs.map (GP.tpd true)).map PD.turn = gs.map (GP.tpd false) := by
      rw [List.map_map]
      exact List.map_congr_left fun p _ => by rw [Function.comp_apply, GP.tpd_true, PD.turn_turn, GP.tpd_false]
    rw [FX] at hown
    have OW := keep (own_base hown (Nat.zero_le _))
    have B8 := keep (B7.out.trans (hb.mono B7.out.size))
    have L0 : (gs.map (GP.tpd false)).length = gs.length := List.length_map _
    have L1 : (gs.map (GP.tpd true)).length = gs.length := List.length_map _
    have T1' := fun B v w (h : w.ownsRow B 50 4 v (gs.map (GP.tpd false)).length (psCells (gs.map (GP.tpd false)))) => TurnSpeeds_ok B v (gs.map (GP.tpd false)) w h (GP.tall_ok false gs OK.out) (by rw [L0]; exact hN)
    have T2' := fun B v w (h : w.ownsRow B 50 4 v (gs.map (GP.tpd true)).length (psCells (gs.map (GP.tpd true)))) => TurnSpeeds_ok B v (gs.map (GP.tpd true)) w h (GP.tall_ok true gs OK.out) (by rw [L1]; exact hN)
    rw [FT, L0] at T1'
    rw [FB, L1] at T2'
    have T1 := keep T1'
    have T2 := keep T2'
    have M1 := keep (fun B v w h => MomentumOf_ok false B v gs w h OK.out hN)
    have M2 := keep (fun B v w h => MomentumOf_ok true B v gs w h OK.out hN)
    have S1 := keep (fun B v w h => SpeedEnergyOf_ok false B v gs w h OK.out hN)
    have S2 := keep (fun B v w h => SpeedEnergyOf_ok true B v gs w h OK.out hN)
    have NM : ∀ p ∈ gs.map (GP.tpd false), p.num := by
      rw [← FX]
      intro q hq
      obtain ⟨p, hp, rfl⟩ := List.mem_map.1 hq
      exact GP.num (OK.out p hp)
    have SP' := fun B1 B2 v1 v2 w h1 h2 => SameParticles_ok B1 B2 v1 v2 (gs.map (GP.tpd false)) w h1 h2 NM (by rw [L0]; omega)
    rw [L0] at SP'
    have SP := keep SP'
    have mb := momSum_bound true gs OK.out hN
    have mn := momSum_neg gs
    have O1 := keep (order_neg5 (sumOf (momU false) gs) (sumOf (momU true) gs) (by rw [mn.1, Int.natAbs_neg]; exact mb.1) mb.1 mn.1)
    have O2 := keep (order_neg5 (sumOf (momV false) gs) (sumOf (momV true) gs) (by rw [mn.2, Int.natAbs_neg]; exact mb.2) mb.2 mn.2)
    have O3 := keep (order_wd_self 9 (sumOf enOf gs) (by omega) (by have := enSum_bound gs OK.out hN; omega))
    clear hown hb FX FT FB L0 L1 T1' T2' NM SP' mb mn hok B7
    generalize sumOf (momU false) gs = mu0 at *
    generalize sumOf (momU true) gs = mu1 at *
    generalize sumOf (momV false) gs = mv0 at *
    generalize sumOf (momV true) gs = mv1 at *
    generalize sumOf enOf gs = en at *
    generalize psCells (gs.map (GP.tpd false)) = X0 at *
    generalize psCells (gs.map (GP.tpd true)) = X1 at *
    go_wp2_with fail
    refine (T1.out _ _ _ OW.out).mono ?_
    rintro e w9 ⟨D, d, rfl, hd, hb⟩
    have OW9 := keep (owns_below OW.out hb)
    have OD9 := keep hd
    have B9 := keep (B8.out.trans (hb.mono B8.out.size))
    clear hd hb OW B8 T1
    go_wp2_with fail
    refine (T2.out _ _ _ OD9.out).mono ?_
    rintro e w10 ⟨E, en2, rfl, hd, hb⟩
    have OW10 := keep (owns_below OW9.out hb)
    have OD10 := keep (owns_below OD9.out hb)
    have OE10 := keep hd
    have B10 := keep (B9.out.trans (hb.mono B9.out.size))
    clear hd hb OW9 OD9 B9 T2
    go_wp2_with fail
    refine (M1.out _ _ _ OW10.out).mono ?_
    rintro e w11 ⟨rfl, hb⟩
    have OW11 := keep (owns_below OW10.out hb)
    have OD11 := keep (owns_below OD10.out hb)
    have OE11 := keep (owns_below OE10.out hb)
    have B11 := keep (B10.out.trans (hb.mono B10.out.size))
    clear hb OW10 OD10 OE10 B10 M1
    go_wp2_with fail
    refine (M2.out _ _ _ OD11.out).mono ?_
    rintro e w12 ⟨rfl, hb⟩
    have OW12 := keep (owns_below OW11.out hb)
    have OD12 := keep (owns_below OD11.out hb)
    have OE12 := keep (owns_below OE11.out hb)
    have B12 := keep (B11.out.trans (hb.mono B11.out.size))
    clear hb OW11 OD11 OE11 B11 M2
    go_wp2_with fail
    refine (S1.out _ _ _ OW12.out).mono ?_
    rintro e w13 ⟨rfl, hb⟩
    have OW13 := keep (owns_below OW12.out hb)
    have OD13 := keep (owns_below OD12.out hb)
    have OE13 := keep (owns_below OE12.out hb)
    have B13 := keep (B12.out.trans (hb.mono B12.out.size))
    clear hb OW12 OD12 OE12 B12 S1
    go_wp2_with fail
    refine (S2.out _ _ _ OD13.out).mono ?_
    rintro e w14 ⟨rfl, hb⟩
    have OW14 := keep (owns_below OW13.out hb)
    have OE14 := keep (owns_below OE13.out hb)
    have B14 := keep (B13.out.trans (hb.mono B13.out.size))
    have o1 := O1.out
    have o2 := O2.out
    have o3 := O3.out
    have r1 := run_negf (wd single 5 mu1)
    have r2 := run_negf (wd single 5 mv1)
    clear hb OW13 OD13 OE13 B13 S2 O1 O2 O3
    go_wp2_with fail
    refine (SP.out _ _ _ _ _ OE14.out OW14.out).mono ?_
    rintro e w15 ⟨rfl, hb⟩
    have B15 := keep (B14.out.trans (hb.mono B14.out.size))
    have z1 := Z1.out
    have z2 := Z2.out
    clear hb OW14 OE14 B14 SP o1 o2 o3 Z1 Z2 r1 r2
    have r1 := run_negf (wd single 3 (-dx))
    have r2 := run_negf (wd single 3 (-dy))
    go_wp2_with fail
    go_ret
    exact ⟨rfl, B15.out⟩
end Go.Proofs.Ytmnpijhnfdiomaa
