/- The law FnStarts by its walk: speeds that stand half a tick before places are pushed back by half a tick, springs pull to the middle, and ways of leaps are told. No condition but that the bytes can be read. -/
import Derived.Test.YtdonmboidpppmaaVt
import Derived.Test.YtdonmboidpppmaaVk
import Derived.Test.YtdonmboidpppmaaBe
import Derived.Deep.DeepCutAuto
namespace Go.Proofs.Ytdonmboidpppmaa
open Go.RowKit Go.Sort Ieee
set_option linter.unusedSimpArgs false
set_option linter.unusedVariables false

set_option maxHeartbeats 32000000 in
set_option maxRecDepth 100000 in
theorem lawStarts_any (a1 a2 : Option Addr) (n1 c1 n2 c2 : Nat) (w : World) (hb1 : Bytes w a1 n1) (hb2 : Bytes w a2 n2) :
    Calls Try.prog 3 #[.slice a1 n1 c1, .slice a2 n2 c2] w fun e w' => e = .returned (.bool true) ∧ Below w.heap.size w w' := by
  have LO := keep (fun w => r8Long_any a1 a2 n1 c1 n2 c2 w)
  cases hl : (decide (48 < n1) || decide (48 < n2))
  case true =>
    rw [hl] at LO
    clear hl hb1 hb2
    go_enter Try.func3, Try.ntmps3
    go_wp2_with fail
    refine (LO.out _).mono ?_
    rintro e w' ⟨rfl, rfl⟩
    go_wp2_with fail
    go_ret
    exact ⟨rfl, Below.refl _ _⟩
  case false =>
    rw [hl] at LO
    have GR := keep (R8Grid_ok a1 n1 c1 w hb1)
    have Qa0 := keep hb1
    have Qb0 := keep hb2
    clear hl hb1 hb2
    go_enter Try.func3, Try.ntmps3
    go_wp2_with fail
    refine (LO.out _).mono ?_
    rintro e wz ⟨rfl, hwz⟩
    have hwz := hwz.symm
    subst hwz
    go_wp2_with fail
    refine GR.out.mono ?_
    rintro e w1 ⟨W, H, ⟨hS, hH6⟩, rfl, hb⟩
    have HS := keep hS
    unfold gridV
    have G2 := keep (Has.made w1 25 #[.int .i64 W, .int .i64 H])
    have hb := hb.alloc hb.size (.cells #[.int .i64 W, .int .i64 H] 25)
    have Qa2 := keep (baft Qa0.out hb)
    have Qb2 := keep (baft Qb0.out hb)
    have B2 := keep hb
    clear hb hS hH6 LO GR Qa0 Qb0
    go_wp2_with fail
    generalize hw2 : w1.alloc (.cells #[.int .i64 W, .int .i64 H] 25) = w2 at *
    generalize w1.heap.size = gb at *
    clear hw2
    have RL := keep (R8List_ok a2 n2 c2 w2 Qb2.out)
    go_wp2_with fail
    refine RL.out.mono ?_
    rintro e w3 ⟨gs, v, hN, hok, rfl, hV, hb⟩
    have hg1 : AllW 1 (gs.map GP.pd) := fun p hp => by
      obtain ⟨g, hg, rfl⟩ := List.mem_map.1 hp
      exact gp_pw g (hok g hg)
    have hg2 : AllN (gs.map GP.pd) := fun p hp => by
      obtain ⟨g, hg, rfl⟩ := List.mem_map.1 hp
      exact gp_num g (hok g hg)
    have hgl : (gs.map GP.pd).length = gs.length := List.length_map ..
    have hN : gs.length ≤ 6 := hN
    generalize gs.map GP.pd = ps at *
    generalize gs.length = N at *
    have hW1 := keep hg1
    have hW2 := keep hg2
    have GL := keep hgl
    have HN := keep hN
    clear RL hok hg1 hg2 hN
    have G3 := keep (G2.out.after hb)
    have B3 := keep (B2.out.trans (hb.mono B2.out.size))
    clear hb G2 Qa2 Qb2 B2
    have V3 := keep (own_base hV (Nat.zero_le _))
    obtain ⟨AV, cV, rfl⟩ := own_slice hV
    clear hV gs hgl
    have cg := G3.out.cells
    have SF := keep (SpringField_ok W H HS.out w3)
    unfold gridV at SF
    go_wp2_with fail
    refine SF.out.mono ?_
    rintro e w4 ⟨la, lb, g1, q1, g2, q2, sla, slb, rfl, hf1, hf2, hb⟩
    have pos : 0 < W * H := Nat.mul_pos (by have := HS.out.1.1; omega) (by have := HS.out.2.1; omega)
    have le49 : W * H ≤ 49 := Nat.mul_le_mul HS.out.1.2 HS.out.2.2
    have FX := keep (fWords_fld3 W H la sla.len sla.small)
    have FY := keep (fWords_fld3 W H lb slb.len slb.small)
    obtain ⟨z1, x1⟩ := spr_first sla pos
    obtain ⟨z2, y1⟩ := spr_first slb pos
    have kx : w4.cell? ⟨g1, 0, none⟩ = some (.float .f32 (wd single 3 (W : Int))) := by rw [hf1.2 0 z1, x1]
    have ky : w4.cell? ⟨g2, 0, none⟩ = some (.float .f32 (wd single 3 (H : Int))) := by rw [hf2.2 0 z2, y1]
    have hX := hf1.words
    have hY := hf2.words
    rw [sla.len, slb.len]
    generalize fWords 3 la = F1 at *
    generalize fWords 3 lb = F2 at *
    have KX := keep kx
    have KY := keep ky
    have L1x := keep hf1.1
    have L2x := keep hf2.1
    clear SF cg sla slb z1 z2 x1 y1 kx ky hf1 hf2 la lb
    have G4 := keep (G3.out.after hb)
    have B4 := keep (B3.out.trans (hb.mono B3.out.size))
    have V4 := keep (owns_below V3.out hb)
    clear hb G3 B3 V3
    have X4 := keep hX
    have Y4 := keep hY
    clear hX hY
    obtain ⟨ss, Ls, T⟩ := sall_any HS.out FX.out FY.out ps hW1.out hW2.out
    have T := keep T
    have SB := keep (fun B v w (h : World.ownsRow w B 41 4 v N (psCells ps)) x y => bStartBack (Bd := 1) HS.out nm_zero.1 nm_half.1 hW1.out T.out.start g1 g2 q1 q2 FX.out.len FY.out.len (by rw [GL.out]; have := HN.out; omega) B v w (by rw [GL.out]; exact h) x y)
    have LL := keep (fun B v w (h : World.ownsRow w B 41 4 v N (psCells ps)) => bLongest (Bd := 1) nm_half.1 ps Ls T.out.l2 hW1.out T.out.ways T.out.small (by rw [GL.out]; have := HN.out; omega) B v w (by rw [GL.out]; exact h))
    rw [GL.out] at SB
    unfold gridV at SB
    have cg := G4.out.cells
    go_wp2_with fail
    refine (SB.out _ _ _ V4.out X4.out Y4.out).mono ?_
    rintro e w5 ⟨AA, cA, rfl, ho, hb⟩
    replace ho := own_base ho (Nat.zero_le _)
    replace KX := keep ((hb.cell (p := ⟨g1, 0, none⟩) L1x.out).trans KX.out)
    replace KY := keep ((hb.cell (p := ⟨g2, 0, none⟩) L2x.out).trans KY.out)
    replace L1x := keep (Nat.lt_of_lt_of_le L1x.out hb.size)
    replace L2x := keep (Nat.lt_of_lt_of_le L2x.out hb.size)
    clear cg SB
    have G5 := keep (G4.out.after hb)
    have B5 := keep (B4.out.trans (hb.mono B4.out.size))
    have V5 := keep (owns_below V4.out hb)
    have X5 := keep (X4.out.after hb)
    have Y5 := keep (Y4.out.after hb)
    clear hb G4 B4 V4 X4 Y4
    have A5 := keep ho
    clear ho
    go_wp2_with fail
    refine (LL.out _ _ _ V5.out).mono ?_
    rintro e w6 ⟨mo, rfl, nmo, hmo, mo4, hb⟩
    replace KX := keep ((hb.cell (p := ⟨g1, 0, none⟩) L1x.out).trans KX.out)
    replace KY := keep ((hb.cell (p := ⟨g2, 0, none⟩) L2x.out).trans KY.out)
    have MO := keep (And.intro nmo (And.intro hmo mo4))
    clear LL L1x L2x nmo hmo mo4
    have G6 := keep (G5.out.after hb)
    have B6 := keep (B5.out.trans (hb.mono B5.out.size))
    have V6 := keep (owns_below V5.out hb)
    have X6 := keep (X5.out.after hb)
    have Y6 := keep (Y5.out.after hb)
    have A6 := keep (owns_below A5.out hb)
    clear hb G5 B5 V5 X5 Y5 A5
    have cg := G6.out.cells
    have kx := KX.out
    have ky := KY.out
    have m1 := zrun (eighth_side W HS.out.1.1 HS.out.1.2)
    have m2 := zrun (eighth_side H HS.out.2.1 HS.out.2.2)
    have o1 := order_wd_self 3 (W : Int) (by omega) (by have := HS.out.1.2; omega)
    have o2 := order_wd_self 3 (H : Int) (by omega) (by have := HS.out.2.2; omega)
    have hwm : IntKind.i64.wrap ((W : Int) * (H : Int)) = ((W * H : Nat) : Int) := by
      rw [← Int.natCast_mul]
      exact IntWalk.i64_in _ ⟨by omega, by omega⟩
    have hne : ((N : Int) != (N : Int)) = false := by simp
    generalize hnn : W * H = nn at *
    have hne2 : ((nn : Int) != (nn : Int)) = false := by simp
    have ipos : (0 : Int) < (nn : Int) := by omega
    clear KX KY
    go_wp2_with fail
    go_quiet (fail)
    clear cg kx ky m1 m2 o1 o2 hwm hne hne2 ipos
    go_wp2_with fail
    go_loopw [14] (fun s wq => ∃ i : Nat, i ≤ N ∧ s = .int .i64 i ∧ Kept (Below w6.heap.size w6 wq)) (fun s _ => N - (intOf s).toNat)
    case atStart => exact ⟨0, Nat.zero_le _, rfl, keep (by first | exact Below.refl _ _ | exact Below.drewN_of (Below.refl _ _) _)⟩
    case round =>
      obtain ⟨i, hi, rfl, hbr⟩ := hrel
      by_cases hlt : i < N
      · have hb := hbr.out
        have G7 := keep (G6.out.after hb)
        have X7 := keep (X6.out.after hb)
        have Y7 := keep (Y6.out.after hb)
        have V7 := keep (owns_below V6.out hb)
        have A7 := keep (owns_below A6.out hb)
        have e1 : i < ps.length := by rw [GL.out]; exact hlt
        have e2 : i < ss.length := by rw [T.out.l1, GL.out]; exact hlt
        have e3 : i < Ls.length := by rw [T.out.l2, GL.out]; exact hlt
        obtain ⟨p', fx, fy, sx, sy, L0, D0, dd, wa, wb, tx, ty, D1, r1, r2, D2, rx, ry, cx, cy, EL⟩ := T.out.elem i e1 e2 e3
        obtain ⟨gV, rfl, lV, v0, v1, v2, v3⟩ := own_elem V7.out hlt ps[i] (fun j u hj hu => by rw [psCells_at _ i e1 j hj]; exact hu)
        obtain ⟨gA, rfl, lA, a0, a1', a2', a3⟩ := own_elem A7.out hlt ss[i] (fun j u hj hu => by rw [psCells_at _ i e2 j hj]; exact hu)
        obtain ⟨M, sM, hM1, hM2, hM3⟩ := EL.t.less mo MO.out.1 (MO.out.2.1 i e3) MO.out.2.2
        have hp1 := EL.t.sa
        have hp2 := EL.t.sb
        generalize ps[i] = p at *
        generalize ss[i] = sp at *
        generalize Ls[i] = Li at *
        clear e1 e2 e3
        obtain ⟨x, y, u, v, qq, m⟩ := p
        obtain ⟨xs, ys, su, sv, sq, sm⟩ := sp
        obtain ⟨x', y', u', v', qq', m'⟩ := p'
        dsimp only at *
        subst hp1 hp2
        have GT := keep (fun w d os (h1 : FldW (grow (redrawn w d) os) g1 F1) (h2 : FldW (grow (redrawn w d) os) g2 F2) => Calls.regrown_of (bGatherTwo HS.out EL.t.pv.hx EL.t.pv.hy EL.t.at_ EL.t.g1 EL.t.g2 g1 g2 q1 q2 FX.out.len FY.out.len (grow (redrawn w d) os) h1 h2))
        have PS := keep (fun w => bPushSpeed EL.t.pv EL.t.n1 EL.t.n2 nm_zero.1 nm_m.1 EL.t.push EL.t.nsc EL.t.nsd w)
        have LG := keep (fun w => bLong EL.t.long w)
        have cw := zconv32 _ _ EL.t.wide
        have fh := zrun EL.t.half
        have cm := zconv32 _ _ hM1
        have fm := zrun hM2
        have SCa := keep (fun w d os => Calls.regrown_of (toB (SameComplex_num su sv EL.sc EL.sd (grow (redrawn w d) os))))
        have SCb := keep (fun w d os => Calls.regrown_of (toB (SameComplex_num xs ys EL.pa EL.pb (grow (redrawn w d) os))))
        have LO := keep (fun w (x : FldW w g1 F1) (y : FldW w g2 F2) => bLeapOnce HS.out nm_zero.1 nm_eighth.1 EL.t.pv EL.t.leap g1 g2 q1 q2 FX.out.len FY.out.len w x y)
        have WL := keep (fun w d os => Calls.regrown_of (bWayOfLeap HS.out EL.t.pv EL.t.pv' EL.t.betw (grow (redrawn w d) os)))
        have SB := keep (fun w d os => Calls.regrown_of (bSpeedBetween HS.out EL.t.pv EL.t.pv' EL.t.betw nm_eighth.1 quo_eight EL.t.er EL.t.es EL.t.nr EL.t.ns (grow (redrawn w d) os)))
        have SC := keep (fun w => zScale u' v' 1040187392 tx ty EL.t.mx EL.t.my w)
        have AP1 := keep (fun w => bApart EL.t.ap1 w)
        have AP2 := keep (fun w => bApart EL.t.ap2 w)
        have S1 := keep EL.t.sm1
        have S2 := keep EL.t.sm2
        have CM := keep cm
        have FM := keep fm
        have H3 := keep hM3
        unfold PD.agg gridV at LO
        unfold pAgg at PS WL SB
        unfold gridV at GT WL SB
        dsimp only at LO
        rw [hnn] at GT LO
        have CA := keep (And.intro a0 (And.intro a1' (And.intro a2' a3)))
        have CV := keep (And.intro v0 (And.intro v1 (And.intro v2 v3)))
        clear hb EL cm fm hM1 hM2 hM3 G6 X6 Y6 V6 A6 V7 A7 T FX FY HS GL HN MO hW1 hW2 hnn pos le49
        have c0 := cell_regrown (G7.out.cells 0)
        have c1 := cell_regrown (G7.out.cells 1)
        have d0 := cell_regrown v0
        have GTq := keep (fun d os => GT.out wr d os (X7.out.after (below_regrown wr d os)) (Y7.out.after (below_regrown wr d os)))
        clear v0 v1 v2 v3 a0 a1' a2' a3 GT
        go_wp2_with fail
        refine wp_region_quiet_below (by as_aux_lemma => kernel_rfl) (by as_aux_lemma => kernel_rfl) ?_
        repeat (any_goals (go_big_quiet_step (first | (with_reducible exact GTq.out _ _))))
        refine wpQuiet_nil ?_
        intro w8 hw8
        obtain ⟨⟨d8, os8⟩, rfl⟩ := hw8
        have hb := below_regrown wr d8 os8
        generalize grow (redrawn wr d8) os8 = w20 at *
        have BB := keep (hbr.out.trans (hb.mono hbr.out.size))
        clear hbr c0 c1 d0 GTq
        have v0 := (hb.cell (p := ⟨gV, i * 4, none⟩) lV).trans CV.out.1
        have v1 := (hb.cell (p := ⟨gV, i * 4 + 1, none⟩) lV).trans CV.out.2.1
        have v2 := (hb.cell (p := ⟨gV, i * 4 + 2, none⟩) lV).trans CV.out.2.2.1
        have v3 := (hb.cell (p := ⟨gV, i * 4 + 3, none⟩) lV).trans CV.out.2.2.2
        have a0 := (hb.cell (p := ⟨gA, i * 4, none⟩) lA).trans CA.out.1
        have a1 := (hb.cell (p := ⟨gA, i * 4 + 1, none⟩) lA).trans CA.out.2.1
        have a2 := (hb.cell (p := ⟨gA, i * 4 + 2, none⟩) lA).trans CA.out.2.2.1
        have a3 := (hb.cell (p := ⟨gA, i * 4 + 3, none⟩) lA).trans CA.out.2.2.2
        have hsz := hb.size
        have lV : gV < w20.heap.size := by omega
        have lA : gA < w20.heap.size := by omega
        clear CV CA hsz
        have CV := keep (And.intro v0 (And.intro v1 (And.intro v2 v3)))
        have CA := keep (And.intro a0 (And.intro a1 (And.intro a2 a3)))
        have G8 := keep (G7.out.after hb)
        have X8 := keep (X7.out.after hb)
        have Y8 := keep (Y7.out.after hb)
        clear hb G7 X7 Y7 a0 a1 a2 a3
        go_wp2_with fail
        refine (PS.out _).mono ?_
        rintro e w21 ⟨rfl, hb⟩
        clear v0 v1 v2 v3 PS
        have BB1 := keep (BB.out.trans (hb.mono BB.out.size))
        have v0 := (hb.cell (p := ⟨gV, i * 4, none⟩) lV).trans CV.out.1
        have v1 := (hb.cell (p := ⟨gV, i * 4 + 1, none⟩) lV).trans CV.out.2.1
        have v2 := (hb.cell (p := ⟨gV, i * 4 + 2, none⟩) lV).trans CV.out.2.2.1
        have v3 := (hb.cell (p := ⟨gV, i * 4 + 3, none⟩) lV).trans CV.out.2.2.2
        have a0 := (hb.cell (p := ⟨gA, i * 4, none⟩) lA).trans CA.out.1
        have a1 := (hb.cell (p := ⟨gA, i * 4 + 1, none⟩) lA).trans CA.out.2.1
        have a2 := (hb.cell (p := ⟨gA, i * 4 + 2, none⟩) lA).trans CA.out.2.2.1
        have a3 := (hb.cell (p := ⟨gA, i * 4 + 3, none⟩) lA).trans CA.out.2.2.2
        have hsz := hb.size
        have lV : gV < w21.heap.size := by omega
        have lA : gA < w21.heap.size := by omega
        clear CV CA hsz
        have CV := keep (And.intro v0 (And.intro v1 (And.intro v2 v3)))
        have CA := keep (And.intro a0 (And.intro a1 (And.intro a2 a3)))
        have G9 := keep (G8.out.after hb)
        have X9 := keep (X8.out.after hb)
        have Y9 := keep (Y8.out.after hb)
        clear hb G8 X8 Y8 a0 a1 a2 a3 v0 v2 v3 BB
        go_wp2_with fail
        refine (LG.out _).mono ?_
        rintro e w' ⟨rfl, hw⟩
        have hw := hw.symm
        subst hw
        clear v1 LG
        have v0 := cell_regrown CV.out.1
        have a0 := cell_regrown CA.out.1
        have a1 := cell_regrown CA.out.2.1
        have cm := CM.out
        have fm := FM.out
        have h3 := H3.out
        go_wp2_with fail
        refine wp_region_quiet_below (by as_aux_lemma => kernel_rfl) (by as_aux_lemma => kernel_rfl) ?_
        repeat (any_goals (go_big_quiet_step (first | (with_reducible exact SCa.out _ _ _) | (with_reducible exact SCb.out _ _ _))))
        refine wpQuiet_nil ?_
        intro w8 hw8
        obtain ⟨⟨d8, os8⟩, rfl⟩ := hw8
        have hb := below_regrown w21 d8 os8
        generalize grow (redrawn w21 d8) os8 = w22 at *
        clear v0 a0 a1 cm fm h3 cw fh SCa SCb CM FM H3
        have BB2 := keep (BB1.out.trans (hb.mono BB1.out.size))
        have v0 := (hb.cell (p := ⟨gV, i * 4, none⟩) lV).trans CV.out.1
        have v1 := (hb.cell (p := ⟨gV, i * 4 + 1, none⟩) lV).trans CV.out.2.1
        have v2 := (hb.cell (p := ⟨gV, i * 4 + 2, none⟩) lV).trans CV.out.2.2.1
        have v3 := (hb.cell (p := ⟨gV, i * 4 + 3, none⟩) lV).trans CV.out.2.2.2
        have a0 := (hb.cell (p := ⟨gA, i * 4, none⟩) lA).trans CA.out.1
        have a1 := (hb.cell (p := ⟨gA, i * 4 + 1, none⟩) lA).trans CA.out.2.1
        have a2 := (hb.cell (p := ⟨gA, i * 4 + 2, none⟩) lA).trans CA.out.2.2.1
        have a3 := (hb.cell (p := ⟨gA, i * 4 + 3, none⟩) lA).trans CA.out.2.2.2
        have hsz := hb.size
        have lV : gV < w22.heap.size := by omega
        have lA : gA < w22.heap.size := by omega
        clear CV CA hsz
        have CV := keep (And.intro v0 (And.intro v1 (And.intro v2 v3)))
        have CA := keep (And.intro a0 (And.intro a1 (And.intro a2 a3)))
        have G10 := keep (G9.out.after hb)
        have X10 := keep (X9.out.after hb)
        have Y10 := keep (Y9.out.after hb)
        clear hb G9 X9 Y9 a0 a1 a2 a3 CA BB1 lA
        have cg := G10.out.cells
        have lG := G10.out.in_heap
        go_wp2_with fail
        have N0 : Kept (Has ((w22.alloc (.cells #[.complex .f32 0 0, .complex .f32 0 0, .float .f32 0, .float .f32 0] 41)).drew) w22.heap.size 41 #[.complex .f32 0 0, .complex .f32 0 0, .float .f32 0, .float .f32 0]) := keep ((Has.made w22 41 #[.complex .f32 0 0, .complex .f32 0 0, .float .f32 0, .float .f32 0]).draws 1)
        have M0 : Kept (Below w22.heap.size w22 ((w22.alloc (.cells #[.complex .f32 0 0, .complex .f32 0 0, .float .f32 0, .float .f32 0] 41)).drew)) := keep (((Below.refl w22.heap.size w22).alloc (Nat.le_refl _) (.cells #[.complex .f32 0 0, .complex .f32 0 0, .float .f32 0, .float .f32 0] 41)).drew)
        have M1 : Kept (Below w22.heap.size w22 w22.drew) := keep ((Below.refl w22.heap.size w22).drew)
        have LOa := keep (LO.out w22.drew (X10.out.after M1.out) (Y10.out.after M1.out))
        have LOb := keep (LO.out ((w22.alloc (.cells #[.complex .f32 0 0, .complex .f32 0 0, .float .f32 0, .float .f32 0] 41)).drew) (X10.out.after M0.out) (Y10.out.after M0.out))
        go_cut [21, 20] (fun sb sp wx => ∃ z : Nat, sb = .bool true ∧ sp = .pointer (some ⟨z, 0, none⟩) ∧ Has wx z 41 #[.complex .f32 x' y', .complex .f32 u' v', .float .f32 qq', .float .f32 m'] ∧ Below w22.heap.size w22 wx)
        case first =>
          as_aux_lemma =>
            have SOF := keep (fun (wz : World) (hb : Below w22.heap.size w22 wz) => (show wz.cell? ⟨gb, 0, none⟩ = some (.int .i64 W) ∧ wz.cell? ⟨gb, 1, none⟩ = some (.int .i64 H) ∧ wz.cell? ⟨gV, i * 4, none⟩ = some (.complex .f32 xs ys) ∧ wz.cell? ⟨gV, i * 4 + 1, none⟩ = some (.complex .f32 u v) ∧ wz.cell? ⟨gV, i * 4 + 2, none⟩ = some (.float .f32 qq) ∧ wz.cell? ⟨gV, i * 4 + 3, none⟩ = some (.float .f32 m) ∧ Below w22.heap.size w22 wz from ⟨(hb.cell (p := ⟨gb, 0, none⟩) lG).trans (cg 0), (hb.cell (p := ⟨gb, 1, none⟩) lG).trans (cg 1), (hb.cell (p := ⟨gV, i * 4, none⟩) lV).trans v0, (hb.cell (p := ⟨gV, i * 4 + 1, none⟩) lV).trans v1, (hb.cell (p := ⟨gV, i * 4 + 2, none⟩) lV).trans v2, (hb.cell (p := ⟨gV, i * 4 + 3, none⟩) lV).trans v3, hb⟩))
            clear cg v0 v1 v2 v3
            go_region_held (fun wz => wz.cell? ⟨gb, 0, none⟩ = some (.int .i64 W) ∧ wz.cell? ⟨gb, 1, none⟩ = some (.int .i64 H) ∧ wz.cell? ⟨gV, i * 4, none⟩ = some (.complex .f32 xs ys) ∧ wz.cell? ⟨gV, i * 4 + 1, none⟩ = some (.complex .f32 u v) ∧ wz.cell? ⟨gV, i * 4 + 2, none⟩ = some (.float .f32 qq) ∧ wz.cell? ⟨gV, i * 4 + 3, none⟩ = some (.float .f32 m) ∧ Below w22.heap.size w22 wz)
              ((refine SOF.out _ ?_; repeat' (first | (with_reducible assumption) | (with_reducible exact Below.refl _ _) | (with_reducible refine Below.drew ?_) | (with_reducible refine Below.alloc ?_ ?_ _) | (with_reducible refine Below.setCell ?_ ?_ _) | (simp; done) | (simp; omega))))
              (first
                | ((with_reducible refine LOa.out.mono ?_)
                   rintro e w3 ⟨rfl, hb3⟩
                   have B3 := M1.out.trans (hb3.mono M1.out.size)
                   have l3s := B3.size
                   have N4 := keep (Has.made w3 41 #[.complex .f32 x' y', .complex .f32 u' v', .float .f32 qq', .float .f32 m'])
                   have B4 := keep (B3.alloc B3.size (.cells #[.complex .f32 x' y', .complex .f32 u' v', .float .f32 qq', .float .f32 m'] 41))
                   clear hb3)
                | ((with_reducible refine LOb.out.mono ?_)
                   rintro e w3 ⟨rfl, hb3⟩
                   have h3 := N0.out.after hb3
                   have B3 := M0.out.trans (hb3.mono M0.out.size)
                   have z0 := h3.cells 0
                   have z1 := h3.cells 1
                   have z2 := h3.cells 2
                   have z3 := h3.cells 3
                   have f0 := h3.free 0
                   have f1 := h3.free 1
                   have f2 := h3.free 2
                   have f3 := h3.free 3
                   have l3 := h3.in_heap
                   have N3 := keep h3
                   have N4 : Kept (Has ((((w3.setCell ⟨w22.heap.size, 0, none⟩ (.complex .f32 x' y')).setCell ⟨w22.heap.size, 1, none⟩ (.complex .f32 u' v')).setCell ⟨w22.heap.size, 2, none⟩ (.float .f32 qq')).setCell ⟨w22.heap.size, 3, none⟩ (.float .f32 m')) w22.heap.size 41 #[.complex .f32 x' y', .complex .f32 u' v', .float .f32 qq', .float .f32 m']) := keep ((((N3.out.written 0 (.complex .f32 x' y')).written 1 (.complex .f32 u' v')).written 2 (.float .f32 qq')).written 3 (.float .f32 m'))
                   have B4 := keep ((((B3.setCell (p := ⟨w22.heap.size, 0, none⟩) (Nat.le_refl _) (.complex .f32 x' y')).setCell (p := ⟨w22.heap.size, 1, none⟩) (Nat.le_refl _) (.complex .f32 u' v')).setCell (p := ⟨w22.heap.size, 2, none⟩) (Nat.le_refl _) (.float .f32 qq')).setCell (p := ⟨w22.heap.size, 3, none⟩) (Nat.le_refl _) (.float .f32 m'))
                   clear hb3 h3 N3))
            all_goals
              go_wp2_with fail
              go_meet
              exact ⟨_, rfl, rfl, N4.out, B4.out⟩
        case rest =>
          obtain ⟨zp, rfl, rfl, hZ, hbz⟩ := hcut
          clear N0 M0 M1 LOa LOb
          have hb := hbz
          have BB3 := keep (BB2.out.trans (hb.mono BB2.out.size))
          have G11 := keep (G10.out.after hb)
          have Zp := keep hZ
          clear v0 v1 v2 v3
          have v0 := (hb.cell (p := ⟨gV, i * 4, none⟩) lV).trans CV.out.1
          have v1 := (hb.cell (p := ⟨gV, i * 4 + 1, none⟩) lV).trans CV.out.2.1
          have v2 := (hb.cell (p := ⟨gV, i * 4 + 2, none⟩) lV).trans CV.out.2.2.1
          have v3 := (hb.cell (p := ⟨gV, i * 4 + 3, none⟩) lV).trans CV.out.2.2.2
          have hsz := hb.size
          have lV : gV < wc.heap.size := by omega
          clear CV hsz
          have CV := keep (And.intro v0 (And.intro v1 (And.intro v2 v3)))
          clear hb hbz hZ G10 X10 Y10 cg lG LO BB2
          generalize wc = w23 at *
          have c0 := cell_regrown (G11.out.cells 0)
          have c1 := cell_regrown (G11.out.cells 1)
          have d0 := cell_regrown v0
          have d1 := cell_regrown v1
          have d2 := cell_regrown v2
          have d3 := cell_regrown v3
          have e0 := cell_regrown (Zp.out.cells 0)
          have e1 := cell_regrown (Zp.out.cells 1)
          have e2 := cell_regrown (Zp.out.cells 2)
          have e3 := cell_regrown (Zp.out.cells 3)
          clear v0 v1 v2 v3
          go_wp2_with fail
          refine wp_region_quiet_below (by as_aux_lemma => kernel_rfl) (by as_aux_lemma => kernel_rfl) ?_
          repeat (any_goals (go_big_quiet_step (first | (with_reducible exact WL.out _ _ _))))
          refine wpQuiet_nil ?_
          intro w8 hw8
          obtain ⟨⟨d8, os8⟩, rfl⟩ := hw8
          have hb := below_regrown w23 d8 os8
          generalize grow (redrawn w23 d8) os8 = w24 at *
          clear c0 c1 d0 d1 d2 d3 e0 e1 e2 e3 WL
          have BB4 := keep (BB3.out.trans (hb.mono BB3.out.size))
          have G12 := keep (G11.out.after hb)
          have Zq := keep (Zp.out.after hb)
          have v0 := (hb.cell (p := ⟨gV, i * 4, none⟩) lV).trans CV.out.1
          have v1 := (hb.cell (p := ⟨gV, i * 4 + 1, none⟩) lV).trans CV.out.2.1
          have v2 := (hb.cell (p := ⟨gV, i * 4 + 2, none⟩) lV).trans CV.out.2.2.1
          have v3 := (hb.cell (p := ⟨gV, i * 4 + 3, none⟩) lV).trans CV.out.2.2.2
          have hsz := hb.size
          have lV : gV < w24.heap.size := by omega
          clear CV hsz
          have CV := keep (And.intro v0 (And.intro v1 (And.intro v2 v3)))
          clear hb G11 Zp BB3
          have c0 := cell_regrown (G12.out.cells 0)
          have c1 := cell_regrown (G12.out.cells 1)
          have d0 := cell_regrown v0
          have d1 := cell_regrown v1
          have d2 := cell_regrown v2
          have d3 := cell_regrown v3
          have e0 := cell_regrown (Zq.out.cells 0)
          have e1 := cell_regrown (Zq.out.cells 1)
          have e2 := cell_regrown (Zq.out.cells 2)
          have e3 := cell_regrown (Zq.out.cells 3)
          clear v0 v1 v2 v3
          go_wp2_with fail
          refine wp_region_quiet_below (by as_aux_lemma => kernel_rfl) (by as_aux_lemma => kernel_rfl) ?_
          repeat (any_goals (go_big_quiet_step (first | (with_reducible exact SB.out _ _ _))))
          refine wpQuiet_nil ?_
          intro w8 hw8
          obtain ⟨⟨d8, os8⟩, rfl⟩ := hw8
          have hb := below_regrown w24 d8 os8
          generalize grow (redrawn w24 d8) os8 = w25 at *
          clear c0 c1 d0 d1 d2 d3 e0 e1 e2 e3 SB
          have BB5 := keep (BB4.out.trans (hb.mono BB4.out.size))
          have Zr := keep (Zq.out.after hb)
          clear hb G12 Zq BB4 CV lV
          have z1 := Zr.out.cells
          have s1 := S1.out
          have s2 := S2.out
          go_wp2_with fail
          refine (SC.out _).mono ?_
          rintro e w' ⟨rfl, hw⟩
          have hw := hw.symm
          subst hw
          go_wp2_with fail
          refine (AP1.out _).mono ?_
          rintro e w' ⟨rfl, hw⟩
          have hw := hw.symm
          subst hw
          go_wp2_with fail
          refine (AP2.out _).mono ?_
          rintro e w' ⟨rfl, hw⟩
          have hw := hw.symm
          subst hw
          clear z1
          go_wp2_with fail
          go_roundw
          case rel => exact ⟨i + 1, by omega, by go_num, BB5⟩
          case measure => simp [intOf]; omega
      · obtain rfl : i = N := by omega
        go_wp2_with fail
        go_ret
        exact ⟨rfl, B6.out.trans (hbr.out.mono B6.out.size)⟩
end Go.Proofs.Ytdonmboidpppmaa
