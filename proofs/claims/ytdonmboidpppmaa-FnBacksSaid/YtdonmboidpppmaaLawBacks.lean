/- The law FnBacks by its walk: a leap that is undone leads back, nearly, to place and speed; all particles leap one by one; runs can be cut anywhere. No condition but that the bytes can be read. -/
import Derived.Test.YtdonmboidpppmaaVm
import Derived.Test.YtdonmboidpppmaaVk
import Derived.Test.YtdonmboidpppmaaBe
import Derived.Deep.DeepCutAuto
namespace Go.Proofs.Ytdonmboidpppmaa
open Go.RowKit Go.Sort Ieee
set_option linter.unusedSimpArgs false
set_option linter.unusedVariables false

theorem has_drew {w : World} {g : Nat} {t : TypeId} {cs : Array Value} (h : Has w g t cs) : Has w.drew g t cs := h

set_option maxHeartbeats 32000000 in
set_option maxRecDepth 100000 in
theorem lawBacks_any (a1 a2 : Option Addr) (n1 c1 n2 c2 : Nat) (w : World) (hb1 : Bytes w a1 n1) (hb2 : Bytes w a2 n2) :
    Calls Try.prog 4 #[.slice a1 n1 c1, .slice a2 n2 c2] w fun e w' => e = .returned (.bool true) ∧ Below w.heap.size w w' := by
  have LO := keep (fun w => r8Long_any a1 a2 n1 c1 n2 c2 w)
  cases hl : (decide (48 < n1) || decide (48 < n2))
  case true =>
    rw [hl] at LO
    clear hl hb1 hb2
    go_enter Try.func4, Try.ntmps4
    go_wp2_with fail
    refine (LO.out _).mono ?_
    rintro e w' ⟨rfl, rfl⟩
    go_wp2_with fail
    go_ret
    exact ⟨rfl, Below.refl _ _⟩
  case false =>
    rw [hl] at LO
    have GR := keep (R8Grid_ok a1 n1 c1 w hb1)
    have Qa0 := keep hb1
    have Qb0 := keep hb2
    clear hl hb1 hb2
    go_enter Try.func4, Try.ntmps4
    go_wp2_with fail
    refine (LO.out _).mono ?_
    rintro e wz ⟨rfl, hwz⟩
    have hwz := hwz.symm
    subst hwz
    go_wp2_with fail
    refine GR.out.mono ?_
    rintro e w1 ⟨W, H, ⟨hS, hH6⟩, rfl, hb⟩
    have HS := keep hS
    unfold gridV
    have G2 := keep (Has.made w1 25 #[.int .i64 W, .int .i64 H])
    have hb := hb.alloc hb.size (.cells #[.int .i64 W, .int .i64 H] 25)
    have Qa2 := keep (baft Qa0.out hb)
    have Qb2 := keep (baft Qb0.out hb)
    have B2 := keep hb
    clear hb hS hH6 LO GR Qa0 Qb0
    go_wp2_with fail
    generalize hw2 : w1.alloc (.cells #[.int .i64 W, .int .i64 H] 25) = w2 at *
    generalize w1.heap.size = gb at *
    clear hw2
    have cg := G2.out.cells
    have RX := keep (R8Field_ok W H HS.out a2 n2 c2 w2 Qb2.out)
    unfold gridV at RX
    go_wp2_with fail
    refine RX.out.mono ?_
    rintro e w3 ⟨fs1, g1, q1, hl1, hs1, rfl, hf1, hb⟩
    rw [hl1]
    have FX := keep (fWords_fld W H fs1 hl1 hs1)
    have hX := hf1.words
    generalize fWords 2 fs1 = F1 at *
    clear RX cg hl1 hs1 hf1
    have G3 := keep (G2.out.after hb)
    have Qa3 := keep (baft Qa2.out hb)
    have Qb3 := keep (baft Qb2.out hb)
    have B3 := keep (B2.out.trans (hb.mono B2.out.size))
    clear hb G2 Qa2 Qb2 B2
    have X3 := keep hX
    clear hX fs1
    have cg := G3.out.cells
    have RY := keep (R8Field_ok W H HS.out a1 n1 c1 w3 Qa3.out)
    unfold gridV at RY
    go_wp2_with fail
    refine RY.out.mono ?_
    rintro e w4 ⟨fs2, g2, q2, hl2, hs2, rfl, hf2, hb⟩
    rw [hl2]
    have FY := keep (fWords_fld W H fs2 hl2 hs2)
    have hY := hf2.words
    generalize fWords 2 fs2 = F2 at *
    clear RY cg hl2 hs2 hf2
    have G4 := keep (G3.out.after hb)
    have Qb4 := keep (baft Qb3.out hb)
    have B4 := keep (B3.out.trans (hb.mono B3.out.size))
    have X4 := keep (X3.out.after hb)
    clear hb G3 Qa3 Qb3 B3 X3
    have Y4 := keep hY
    clear hY fs2
    have RL := keep (R8List_ok a2 n2 c2 w4 Qb4.out)
    go_wp2_with fail
    refine RL.out.mono ?_
    rintro e w5 ⟨gs, v, hN, hok, rfl, hV, hb⟩
    have hg1 : AllW 1 (gs.map GP.pd) := fun p hp => by
      obtain ⟨g, hg, rfl⟩ := List.mem_map.1 hp
      exact gp_pw g (hok g hg)
    have hg2 : AllN (gs.map GP.pd) := fun p hp => by
      obtain ⟨g, hg, rfl⟩ := List.mem_map.1 hp
      exact gp_num g (hok g hg)
    have hgl : (gs.map GP.pd).length = gs.length := List.length_map ..
    have hN : gs.length ≤ 6 := hN
    generalize gs.map GP.pd = ps at *
    generalize gs.length = N at *
    clear RL hok
    have G5 := keep (G4.out.after hb)
    have Qb5 := keep (baft Qb4.out hb)
    have B5 := keep (B4.out.trans (hb.mono B4.out.size))
    have X5 := keep (X4.out.after hb)
    have Y5 := keep (Y4.out.after hb)
    clear hb G4 Qb4 B4 X4 Y4
    have V5 := keep (own_base hV (Nat.zero_le _))
    obtain ⟨AV, cV, rfl⟩ := own_slice hV
    clear hV gs
    go_wp2_with fail
    refine (R8Number_ok a2 n2 c2 0 w5 Qb5.out (by omega)).mono ?_
    rintro e w' ⟨mg, hmg, rfl, hw⟩
    have hw := hw.symm
    subst hw
    go_wp2_with fail
    refine (R8Number_ok a2 n2 c2 1 w5 Qb5.out (by omega)).mono ?_
    rintro e w' ⟨tk, htk, rfl, hw⟩
    have hw := hw.symm
    subst hw
    have e8 : ((8 : Int) : Rat) = 8 := rfl
    have nm := (wd8 mg (by omega) (by omega)).1
    have nt := (wd8 tk (by omega) (by omega)).1
    have bm := (wd8_bd mg 8 hmg.1 hmg.2 (by omega)).mono (e' := 1) (by rw [e8]; grind)
    have bt := (wd8_bd tk 8 htk.1 htk.2 (by omega)).mono (e' := 1) (by rw [e8]; grind)
    generalize wd single 3 mg = mag at *
    generalize wd single 3 tk = tick at *
    obtain ⟨L, Bd, Q, T⟩ := btold_any HS.out FX.out FY.out nm bm nt bt ps hg1
    obtain ⟨tn, tq⟩ := T.num hg2
    replace T := keep T
    have TN := keep tn
    have TQ := keep tq
    have NM := keep nm
    have NT := keep nt
    have HN := keep hN
    have LN := keep (fun k (hk : k ≤ 5) => (T.out.len k hk).trans hgl)
    have QN := keep (T.out.qlen.trans hgl)
    have GN := keep hg2
    have GL := keep hgl
    clear e8 nm nt bm bt tn tq hmg htk hg1 hg2 hN
    have V100 : Kept (World.ownsRow w5 0 41 4 (.slice AV N cV) N (psCells (L 0))) := keep (by rw [T.out.l0]; exact V5.out)
    have LA := keep (fun B v w (h : World.ownsRow w B 41 4 v N (psCells (L 0))) x y => bLeapAll HS.out NM.out NT.out (T.out.all 0 (by omega)) (T.out.leap 0 (by omega)) g1 g2 q1 q2 FX.out.len FY.out.len (by rw [LN.out 0 (by omega)]; have := HN.out; omega) B v w (by rw [LN.out 0 (by omega)]; exact h) x y)
    have BA := keep (fun B v w (h : World.ownsRow w B 41 4 v N (psCells (L 1))) x y => bBackAll HS.out NM.out NT.out (T.out.all 1 (by omega)) T.out.back T.out.qall g1 g2 q1 q2 FX.out.len FY.out.len (by rw [LN.out 1 (by omega)]; have := HN.out; omega) B v w (by rw [LN.out 1 (by omega)]; exact h) x y)
    have RU := keep (fun a s (hs : a + s ≤ 5) B v w (h : World.ownsRow w B 41 4 v N (psCells (L a))) x y => bRunLeaps L Bd HS.out NM.out NT.out 5 T.out.all T.out.leap N LN.out g1 g2 q1 q2 FX.out.len FY.out.len (by have := HN.out; omega) a s hs (by omega) B v w h x y)
    rw [LN.out 0 (by omega)] at LA
    rw [LN.out 1 (by omega)] at BA
    have l1 := LN.out 1 (by omega)
    clear hgl V5
    unfold gridV at LA BA RU
    have cg := G5.out.cells
    go_wp2_with fail
    refine (LA.out _ _ _ V100.out X5.out Y5.out).mono ?_
    rintro e w6 ⟨AA, cA, rfl, ho, hb⟩
    clear cg
    replace ho := own_base ho (Nat.zero_le _)
    have G6 := keep (G5.out.after hb)
    have Qb6 := keep (baft Qb5.out hb)
    have B6 := keep (B5.out.trans (hb.mono B5.out.size))
    have X6 := keep (X5.out.after hb)
    have Y6 := keep (Y5.out.after hb)
    have V6 := keep (owns_below V100.out hb)
    clear hb G5 Qb5 B5 X5 Y5 V100
    have A6 := keep ho
    clear ho
    rw [Nat.zero_add] at A6
    have cg := G6.out.cells
    go_wp2_with fail
    refine (BA.out _ _ _ A6.out X6.out Y6.out).mono ?_
    rintro e w7 ⟨AK, cK, rfl, ho, hb⟩
    clear cg
    replace ho := own_base ho (Nat.zero_le _)
    have G7 := keep (G6.out.after hb)
    have Qb7 := keep (baft Qb6.out hb)
    have B7 := keep (B6.out.trans (hb.mono B6.out.size))
    have X7 := keep (X6.out.after hb)
    have Y7 := keep (Y6.out.after hb)
    have V7 := keep (owns_below V6.out hb)
    have A7 := keep (owns_below A6.out hb)
    clear hb G6 Qb6 B6 X6 Y6 V6 A6
    have K7 := keep ho
    clear ho
    go_wp2_with fail
    refine (r8At_ok a2 n2 c2 2 4 w7 Qb7.out (by omega) (by omega)).mono ?_
    rintro e w' ⟨⟨s, hs, rfl⟩, hw⟩
    have hw := hw.symm
    subst hw
    go_wp2_with fail
    refine (r8At_ok a2 n2 c2 3 3 w7 Qb7.out (by omega) (by omega)).mono ?_
    rintro e w' ⟨⟨r, hr, rfl⟩, hw⟩
    have hw := hw.symm
    subst hw
    have HR := keep (show s + r ≤ 5 by omega)
    have hsr : IntKind.i64.wrap ((s : Int) + (r : Int)) = ((s + r : Nat) : Int) := IntWalk.i64_in _ ⟨by omega, by omega⟩
    clear hs hr
    have cg := G7.out.cells
    go_wp2_with fail
    refine (RU.out 0 s (by have := HR.out; omega) _ _ _ V7.out X7.out Y7.out).mono ?_
    rintro e w8 ⟨AM, cM, rfl, ho, hb⟩
    clear cg
    replace ho := own_base ho (Nat.zero_le _)
    have G8 := keep (G7.out.after hb)
    have Qb8 := keep (baft Qb7.out hb)
    have B8 := keep (B7.out.trans (hb.mono B7.out.size))
    have X8 := keep (X7.out.after hb)
    have Y8 := keep (Y7.out.after hb)
    have V8 := keep (owns_below V7.out hb)
    have A8 := keep (owns_below A7.out hb)
    have K8 := keep (owns_below K7.out hb)
    clear hb G7 Qb7 B7 X7 Y7 V7 A7 K7
    have M8 := keep ho
    clear ho
    rw [Nat.zero_add] at M8
    have cg := G8.out.cells
    go_wp2_with fail
    refine (RU.out s r HR.out _ _ _ M8.out X8.out Y8.out).mono ?_
    rintro e w9 ⟨AE, cE, rfl, ho, hb⟩
    clear cg
    replace ho := own_base ho (Nat.zero_le _)
    have G9 := keep (G8.out.after hb)
    have Qb9 := keep (baft Qb8.out hb)
    have B9 := keep (B8.out.trans (hb.mono B8.out.size))
    have X9 := keep (X8.out.after hb)
    have Y9 := keep (Y8.out.after hb)
    have V9 := keep (owns_below V8.out hb)
    have A9 := keep (owns_below A8.out hb)
    have K9 := keep (owns_below K8.out hb)
    clear hb G8 Qb8 B8 X8 Y8 V8 A8 K8 M8
    have E9 := keep ho
    clear ho
    have cg := G9.out.cells
    go_wp2_with fail
    refine (RU.out 0 (s + r) (by have := HR.out; omega) _ _ _ V9.out X9.out Y9.out).mono ?_
    rintro e w10 ⟨AZ, cZ, rfl, ho, hb⟩
    clear cg
    replace ho := own_base ho (Nat.zero_le _)
    have G10 := keep (G9.out.after hb)
    have Qb10 := keep (baft Qb9.out hb)
    have B10 := keep (B9.out.trans (hb.mono B9.out.size))
    have X10 := keep (X9.out.after hb)
    have Y10 := keep (Y9.out.after hb)
    have V10 := keep (owns_below V9.out hb)
    have A10 := keep (owns_below A9.out hb)
    have K10 := keep (owns_below K9.out hb)
    have E10 := keep (owns_below E9.out hb)
    clear hb G9 Qb9 B9 X9 Y9 V9 A9 K9 E9
    have Z10 := keep ho
    clear ho
    rw [Nat.zero_add] at Z10
    have SP := keep (fun B1 B2 v1 v2 w (h1 : World.ownsRow w B1 41 4 v1 N (psCells (L (s + r)))) (h2 : World.ownsRow w B2 41 4 v2 N (psCells (L (s + r)))) => SameParticles_ok B1 B2 v1 v2 (L (s + r)) w (by rw [LN.out _ HR.out]; exact h1) (by rw [LN.out _ HR.out]; exact h2) (TN.out _ HR.out) (by rw [LN.out _ HR.out]; have := HN.out; omega))
    clear hsr LA BA RU
    have hne : ((N : Int) != (N : Int)) = false := by simp
    go_wp2_with fail
    refine (SP.out _ _ _ _ _ E10.out Z10.out).mono ?_
    rintro e w11 ⟨rfl, hb⟩
    clear SP
    have G11 := keep (G10.out.after hb)
    have B11 := keep (B10.out.trans (hb.mono B10.out.size))
    have X11 := keep (X10.out.after hb)
    have Y11 := keep (Y10.out.after hb)
    have V11 := keep (owns_below V10.out hb)
    have A11 := keep (owns_below A10.out hb)
    have K11 := keep (owns_below K10.out hb)
    clear hb G10 Qb10 B10 X10 Y10 V10 A10 K10 E10 Z10
    go_wp2_with fail
    have hh0 := HN.out
    go_loopw [23] (fun s wq => ∃ i : Nat, i ≤ N ∧ s = .int .i64 i ∧ Kept (Below w11.heap.size w11 wq)) (fun s _ => N - (intOf s).toNat)
    case atStart => exact ⟨0, Nat.zero_le _, rfl, keep (Below.refl _ _)⟩
    case round =>
      obtain ⟨i, hi, rfl, hbr⟩ := hrel
      by_cases hlt : i < N
      · clear hne hh0
        have hb := hbr.out
        have G1 := keep (G11.out.after hb)
        have X1 := keep (X11.out.after hb)
        have Y1 := keep (Y11.out.after hb)
        have V1 := keep (owns_below V11.out hb)
        have A1 := keep (owns_below A11.out hb)
        have K1 := keep (owns_below K11.out hb)
        obtain ⟨p, p', q, ra, rb, L1, D1, D, EL, x0, x1, xq⟩ := T.out.elem GN.out i (by rw [GL.out]; exact hlt)
        obtain ⟨gV, rfl, lV, v0, v1, v2, v3⟩ := own_elem V1.out hlt p x0
        obtain ⟨gA, rfl, lA, a0, a1', a2', a3⟩ := own_elem A1.out hlt p' x1
        obtain ⟨gK, rfl, lK, k0, k1, k2, k3⟩ := own_elem K1.out hlt q xq
        have LO := keep (fun w (x : FldW w g1 F1) (y : FldW w g2 F2) => bLeapOnce HS.out NM.out NT.out EL.pv EL.leap g1 g2 q1 q2 FX.out.len FY.out.len w x y)
        have BO := keep (fun w (x : FldW w g1 F1) (y : FldW w g2 F2) => bBackOnce HS.out NM.out NT.out EL.pv' EL.back EL.qv.hx EL.qv.hy g1 g2 q1 q2 FX.out.len FY.out.len w x y)
        have WB := keep (fun w => bWayBetween HS.out EL.pv.hx EL.pv.hy EL.qv.hx EL.qv.hy EL.near.betw w)
        have SM := keep (fun b1 b2 w h1 h2 => two_same p' q EL.pn' EL.qn 0 0 b1 b2 w h1 h2)
        have LG := keep (fun w => bLong EL.near.long w)
        have cw := zconv32 _ _ EL.near.wide
        have AP := keep (fun w => bApart EL.near.apart w)
        have s1 := EL.near.small
        have s2 := EL.near.close
        obtain ⟨x, y, u, v, qq, m⟩ := p
        obtain ⟨x', y', u', v', qq', m'⟩ := p'
        obtain ⟨x2, y2, u2, v2', q2', m2⟩ := q
        dsimp only at *
        unfold PD.agg gridV at LO BO
        unfold gridV at WB
        dsimp only at LO BO
        have S1 := keep s1
        have S2 := keep s2
        have CW := keep cw
        have CA := keep (And.intro a0 (And.intro a1' (And.intro a2' a3)))
        have CK := keep (And.intro k0 (And.intro k1 (And.intro k2 k3)))
        have CV := keep (And.intro v0 (And.intro v1 (And.intro v2 v3)))
        have hsz : i * 4 + 3 < 4 * N := by omega
        clear hb EL x0 x1 xq s1 s2 cw a0 a1' a2' a3 k0 k1 k2 k3 G11 X11 Y11 V11 A11 K11 V1 A1 K1 T TN TQ NM NT FX FY HS HR QN GN GL l1 LN
        have cg := G1.out.cells
        have lG := G1.out.in_heap
        go_wp2_with fail
        have N0 : Kept (Has ((wr.alloc (.cells #[.complex .f32 0 0, .complex .f32 0 0, .float .f32 0, .float .f32 0] 41)).drew) wr.heap.size 41 #[.complex .f32 0 0, .complex .f32 0 0, .float .f32 0, .float .f32 0]) := keep ((Has.made wr 41 #[.complex .f32 0 0, .complex .f32 0 0, .float .f32 0, .float .f32 0]).draws 1)
        have M0 : Kept (Below wr.heap.size wr ((wr.alloc (.cells #[.complex .f32 0 0, .complex .f32 0 0, .float .f32 0, .float .f32 0] 41)).drew)) := keep (((Below.refl wr.heap.size wr).alloc (Nat.le_refl _) (.cells #[.complex .f32 0 0, .complex .f32 0 0, .float .f32 0, .float .f32 0] 41)).drew)
        have M1 : Kept (Below wr.heap.size wr wr.drew) := keep ((Below.refl wr.heap.size wr).drew)
        have LOa := keep (LO.out wr.drew (X1.out.after M1.out) (Y1.out.after M1.out))
        have LOb := keep (LO.out ((wr.alloc (.cells #[.complex .f32 0 0, .complex .f32 0 0, .float .f32 0, .float .f32 0] 41)).drew) (X1.out.after M0.out) (Y1.out.after M0.out))
        go_cut [25, 24] (fun sb sp wx => ∃ z : Nat, sb = .bool true ∧ sp = .pointer (some ⟨z, 0, none⟩) ∧ Has wx z 41 #[.complex .f32 x' y', .complex .f32 u' v', .float .f32 qq', .float .f32 m'] ∧ Below wr.heap.size wr wx)
        case first =>
          as_aux_lemma =>
            have SOF := keep (fun (wz : World) (hb : Below wr.heap.size wr wz) => (show wz.cell? ⟨gb, 0, none⟩ = some (.int .i64 W) ∧ wz.cell? ⟨gb, 1, none⟩ = some (.int .i64 H) ∧ wz.cell? ⟨gV, i * 4, none⟩ = some (.complex .f32 x y) ∧ wz.cell? ⟨gV, i * 4 + 1, none⟩ = some (.complex .f32 u v) ∧ wz.cell? ⟨gV, i * 4 + 2, none⟩ = some (.float .f32 qq) ∧ wz.cell? ⟨gV, i * 4 + 3, none⟩ = some (.float .f32 m) ∧ Below wr.heap.size wr wz from ⟨(hb.cell (p := ⟨gb, 0, none⟩) lG).trans (cg 0), (hb.cell (p := ⟨gb, 1, none⟩) lG).trans (cg 1), (hb.cell (p := ⟨gV, i * 4, none⟩) lV).trans v0, (hb.cell (p := ⟨gV, i * 4 + 1, none⟩) lV).trans v1, (hb.cell (p := ⟨gV, i * 4 + 2, none⟩) lV).trans v2, (hb.cell (p := ⟨gV, i * 4 + 3, none⟩) lV).trans v3, hb⟩))
            clear cg v0 v1 v2 v3
            go_region_held (fun wz => wz.cell? ⟨gb, 0, none⟩ = some (.int .i64 W) ∧ wz.cell? ⟨gb, 1, none⟩ = some (.int .i64 H) ∧ wz.cell? ⟨gV, i * 4, none⟩ = some (.complex .f32 x y) ∧ wz.cell? ⟨gV, i * 4 + 1, none⟩ = some (.complex .f32 u v) ∧ wz.cell? ⟨gV, i * 4 + 2, none⟩ = some (.float .f32 qq) ∧ wz.cell? ⟨gV, i * 4 + 3, none⟩ = some (.float .f32 m) ∧ Below wr.heap.size wr wz)
              ((refine SOF.out _ ?_; repeat' (first | (with_reducible assumption) | (with_reducible exact Below.refl _ _) | (with_reducible refine Below.drew ?_) | (with_reducible refine Below.alloc ?_ ?_ _) | (with_reducible refine Below.setCell ?_ ?_ _) | (simp; done) | (simp; omega))))
              (first
                | ((with_reducible refine LOa.out.mono ?_)
                   rintro e w3 ⟨rfl, hb3⟩
                   have B3 := M1.out.trans (hb3.mono M1.out.size)
                   have l3s := B3.size
                   have N4 := keep (Has.made w3 41 #[.complex .f32 x' y', .complex .f32 u' v', .float .f32 qq', .float .f32 m'])
                   have B4 := keep (B3.alloc B3.size (.cells #[.complex .f32 x' y', .complex .f32 u' v', .float .f32 qq', .float .f32 m'] 41))
                   clear hb3)
                | ((with_reducible refine LOb.out.mono ?_)
                   rintro e w3 ⟨rfl, hb3⟩
                   have h3 := N0.out.after hb3
                   have B3 := M0.out.trans (hb3.mono M0.out.size)
                   have z0 := h3.cells 0
                   have z1 := h3.cells 1
                   have z2 := h3.cells 2
                   have z3 := h3.cells 3
                   have f0 := h3.free 0
                   have f1 := h3.free 1
                   have f2 := h3.free 2
                   have f3 := h3.free 3
                   have l3 := h3.in_heap
                   have N3 := keep h3
                   have N4 : Kept (Has ((((w3.setCell ⟨wr.heap.size, 0, none⟩ (.complex .f32 x' y')).setCell ⟨wr.heap.size, 1, none⟩ (.complex .f32 u' v')).setCell ⟨wr.heap.size, 2, none⟩ (.float .f32 qq')).setCell ⟨wr.heap.size, 3, none⟩ (.float .f32 m')) wr.heap.size 41 #[.complex .f32 x' y', .complex .f32 u' v', .float .f32 qq', .float .f32 m']) := keep ((((N3.out.written 0 (.complex .f32 x' y')).written 1 (.complex .f32 u' v')).written 2 (.float .f32 qq')).written 3 (.float .f32 m'))
                   have B4 := keep ((((B3.setCell (p := ⟨wr.heap.size, 0, none⟩) (Nat.le_refl _) (.complex .f32 x' y')).setCell (p := ⟨wr.heap.size, 1, none⟩) (Nat.le_refl _) (.complex .f32 u' v')).setCell (p := ⟨wr.heap.size, 2, none⟩) (Nat.le_refl _) (.float .f32 qq')).setCell (p := ⟨wr.heap.size, 3, none⟩) (Nat.le_refl _) (.float .f32 m'))
                   clear hb3 h3 N3))
            all_goals
              go_wp2_with fail
              go_meet
              exact ⟨_, rfl, rfl, N4.out, B4.out⟩
        case rest =>
          obtain ⟨zp, rfl, rfl, hZ, hbz⟩ := hcut
          clear N0 M0 M1 LOa LOb
          have hb := hbz
          have G2 := keep (G1.out.after hb)
          have X2 := keep (X1.out.after hb)
          have Y2 := keep (Y1.out.after hb)
          have Zp := keep hZ
          have hsz2 := hb.size
          have BB2 := keep (hbr.out.trans (hb.mono hbr.out.size))
          have a0 := (hb.cell (p := ⟨gA, i * 4, none⟩) lA).trans CA.out.1
          have a1 := (hb.cell (p := ⟨gA, i * 4 + 1, none⟩) lA).trans CA.out.2.1
          have a2 := (hb.cell (p := ⟨gA, i * 4 + 2, none⟩) lA).trans CA.out.2.2.1
          have a3 := (hb.cell (p := ⟨gA, i * 4 + 3, none⟩) lA).trans CA.out.2.2.2
          have k0 := (hb.cell (p := ⟨gK, i * 4, none⟩) lK).trans CK.out.1
          have k1 := (hb.cell (p := ⟨gK, i * 4 + 1, none⟩) lK).trans CK.out.2.1
          have k2 := (hb.cell (p := ⟨gK, i * 4 + 2, none⟩) lK).trans CK.out.2.2.1
          have k3 := (hb.cell (p := ⟨gK, i * 4 + 3, none⟩) lK).trans CK.out.2.2.2
          have v0 := (hb.cell (p := ⟨gV, i * 4, none⟩) lV).trans CV.out.1
          have v1 := (hb.cell (p := ⟨gV, i * 4 + 1, none⟩) lV).trans CV.out.2.1
          have v2 := (hb.cell (p := ⟨gV, i * 4 + 2, none⟩) lV).trans CV.out.2.2.1
          have v3 := (hb.cell (p := ⟨gV, i * 4 + 3, none⟩) lV).trans CV.out.2.2.2
          have lA : gA < wc.heap.size := by omega
          have lK : gK < wc.heap.size := by omega
          have lV : gV < wc.heap.size := by omega
          clear hb hbz hZ hsz2 G1 X1 Y1 CA CK CV cg LO hbr
          have CK := keep (And.intro k0 (And.intro k1 (And.intro k2 k3)))
          have CV := keep (And.intro v0 (And.intro v1 (And.intro v2 v3)))
          have CA := keep (And.intro a0 (And.intro a1 (And.intro a2 a3)))
          clear k0 k1 k2 k3 v0 v1 v2 v3
          generalize wc = w22 at *
          have cg := G2.out.cells
          have lG := G2.out.in_heap
          go_wp2_with fail
          have N0 : Kept (Has ((w22.alloc (.cells #[.complex .f32 0 0, .complex .f32 0 0, .float .f32 0, .float .f32 0] 41)).drew) w22.heap.size 41 #[.complex .f32 0 0, .complex .f32 0 0, .float .f32 0, .float .f32 0]) := keep ((Has.made w22 41 #[.complex .f32 0 0, .complex .f32 0 0, .float .f32 0, .float .f32 0]).draws 1)
          have M0 : Kept (Below w22.heap.size w22 ((w22.alloc (.cells #[.complex .f32 0 0, .complex .f32 0 0, .float .f32 0, .float .f32 0] 41)).drew)) := keep (((Below.refl w22.heap.size w22).alloc (Nat.le_refl _) (.cells #[.complex .f32 0 0, .complex .f32 0 0, .float .f32 0, .float .f32 0] 41)).drew)
          have M1 : Kept (Below w22.heap.size w22 w22.drew) := keep ((Below.refl w22.heap.size w22).drew)
          have LOa := keep (BO.out w22.drew (X2.out.after M1.out) (Y2.out.after M1.out))
          have LOb := keep (BO.out ((w22.alloc (.cells #[.complex .f32 0 0, .complex .f32 0 0, .float .f32 0, .float .f32 0] 41)).drew) (X2.out.after M0.out) (Y2.out.after M0.out))
          go_cut [27, 26] (fun sb sp wx => ∃ z : Nat, sb = .bool true ∧ sp = .pointer (some ⟨z, 0, none⟩) ∧ Has wx z 41 #[.complex .f32 x2 y2, .complex .f32 u2 v2', .float .f32 q2', .float .f32 m2] ∧ Below w22.heap.size w22 wx)
          case first =>
            as_aux_lemma =>
              have SOF := keep (fun (wz : World) (hb : Below w22.heap.size w22 wz) => (show wz.cell? ⟨gb, 0, none⟩ = some (.int .i64 W) ∧ wz.cell? ⟨gb, 1, none⟩ = some (.int .i64 H) ∧ wz.cell? ⟨gA, i * 4, none⟩ = some (.complex .f32 x' y') ∧ wz.cell? ⟨gA, i * 4 + 1, none⟩ = some (.complex .f32 u' v') ∧ wz.cell? ⟨gA, i * 4 + 2, none⟩ = some (.float .f32 qq') ∧ wz.cell? ⟨gA, i * 4 + 3, none⟩ = some (.float .f32 m') ∧ Below w22.heap.size w22 wz from ⟨(hb.cell (p := ⟨gb, 0, none⟩) lG).trans (cg 0), (hb.cell (p := ⟨gb, 1, none⟩) lG).trans (cg 1), (hb.cell (p := ⟨gA, i * 4, none⟩) lA).trans a0, (hb.cell (p := ⟨gA, i * 4 + 1, none⟩) lA).trans a1, (hb.cell (p := ⟨gA, i * 4 + 2, none⟩) lA).trans a2, (hb.cell (p := ⟨gA, i * 4 + 3, none⟩) lA).trans a3, hb⟩))
              clear cg a0 a1 a2 a3
              go_region_held (fun wz => wz.cell? ⟨gb, 0, none⟩ = some (.int .i64 W) ∧ wz.cell? ⟨gb, 1, none⟩ = some (.int .i64 H) ∧ wz.cell? ⟨gA, i * 4, none⟩ = some (.complex .f32 x' y') ∧ wz.cell? ⟨gA, i * 4 + 1, none⟩ = some (.complex .f32 u' v') ∧ wz.cell? ⟨gA, i * 4 + 2, none⟩ = some (.float .f32 qq') ∧ wz.cell? ⟨gA, i * 4 + 3, none⟩ = some (.float .f32 m') ∧ Below w22.heap.size w22 wz)
                ((refine SOF.out _ ?_; repeat' (first | (with_reducible assumption) | (with_reducible exact Below.refl _ _) | (with_reducible refine Below.drew ?_) | (with_reducible refine Below.alloc ?_ ?_ _) | (with_reducible refine Below.setCell ?_ ?_ _) | (simp; done) | (simp; omega))))
                (first
                  | ((with_reducible refine LOa.out.mono ?_)
                     rintro e w3 ⟨rfl, hb3⟩
                     have B3 := M1.out.trans (hb3.mono M1.out.size)
                     have l3s := B3.size
                     have N4 := keep (Has.made w3 41 #[.complex .f32 x2 y2, .complex .f32 u2 v2', .float .f32 q2', .float .f32 m2])
                     have B4 := keep (B3.alloc B3.size (.cells #[.complex .f32 x2 y2, .complex .f32 u2 v2', .float .f32 q2', .float .f32 m2] 41))
                     clear hb3)
                  | ((with_reducible refine LOb.out.mono ?_)
                     rintro e w3 ⟨rfl, hb3⟩
                     have h3 := N0.out.after hb3
                     have B3 := M0.out.trans (hb3.mono M0.out.size)
                     have z0 := h3.cells 0
                     have z1 := h3.cells 1
                     have z2 := h3.cells 2
                     have z3 := h3.cells 3
                     have f0 := h3.free 0
                     have f1 := h3.free 1
                     have f2 := h3.free 2
                     have f3 := h3.free 3
                     have l3 := h3.in_heap
                     have N3 := keep h3
                     have N4 : Kept (Has ((((w3.setCell ⟨w22.heap.size, 0, none⟩ (.complex .f32 x2 y2)).setCell ⟨w22.heap.size, 1, none⟩ (.complex .f32 u2 v2')).setCell ⟨w22.heap.size, 2, none⟩ (.float .f32 q2')).setCell ⟨w22.heap.size, 3, none⟩ (.float .f32 m2)) w22.heap.size 41 #[.complex .f32 x2 y2, .complex .f32 u2 v2', .float .f32 q2', .float .f32 m2]) := keep ((((N3.out.written 0 (.complex .f32 x2 y2)).written 1 (.complex .f32 u2 v2')).written 2 (.float .f32 q2')).written 3 (.float .f32 m2))
                     have B4 := keep ((((B3.setCell (p := ⟨w22.heap.size, 0, none⟩) (Nat.le_refl _) (.complex .f32 x2 y2)).setCell (p := ⟨w22.heap.size, 1, none⟩) (Nat.le_refl _) (.complex .f32 u2 v2')).setCell (p := ⟨w22.heap.size, 2, none⟩) (Nat.le_refl _) (.float .f32 q2')).setCell (p := ⟨w22.heap.size, 3, none⟩) (Nat.le_refl _) (.float .f32 m2))
                     clear hb3 h3 N3))
              all_goals
                go_wp2_with fail
                go_meet
                exact ⟨_, rfl, rfl, N4.out, B4.out⟩
          case rest =>
            obtain ⟨zq, rfl, rfl, hZ, hbz⟩ := hcut
            clear N0 M0 M1 LOa LOb
            have hb := hbz
            have G3 := keep (G2.out.after hb)
            have Zp3 := keep (Zp.out.after hb)
            have Zq := keep hZ
            have hsz2 := hb.size
            have BB3 := keep (BB2.out.trans (hb.mono BB2.out.size))
            clear a0 a1 a2 a3
            have a0 := (hb.cell (p := ⟨gA, i * 4, none⟩) lA).trans CA.out.1
            have a1 := (hb.cell (p := ⟨gA, i * 4 + 1, none⟩) lA).trans CA.out.2.1
            have a2 := (hb.cell (p := ⟨gA, i * 4 + 2, none⟩) lA).trans CA.out.2.2.1
            have a3 := (hb.cell (p := ⟨gA, i * 4 + 3, none⟩) lA).trans CA.out.2.2.2
            have k0 := (hb.cell (p := ⟨gK, i * 4, none⟩) lK).trans CK.out.1
            have k1 := (hb.cell (p := ⟨gK, i * 4 + 1, none⟩) lK).trans CK.out.2.1
            have k2 := (hb.cell (p := ⟨gK, i * 4 + 2, none⟩) lK).trans CK.out.2.2.1
            have k3 := (hb.cell (p := ⟨gK, i * 4 + 3, none⟩) lK).trans CK.out.2.2.2
            have v0 := (hb.cell (p := ⟨gV, i * 4, none⟩) lV).trans CV.out.1
            have v1 := (hb.cell (p := ⟨gV, i * 4 + 1, none⟩) lV).trans CV.out.2.1
            have v2 := (hb.cell (p := ⟨gV, i * 4 + 2, none⟩) lV).trans CV.out.2.2.1
            have v3 := (hb.cell (p := ⟨gV, i * 4 + 3, none⟩) lV).trans CV.out.2.2.2
            have lA : gA < wc.heap.size := by omega
            have lK : gK < wc.heap.size := by omega
            have lV : gV < wc.heap.size := by omega
            clear hb hbz hZ hsz2 G2 X2 Y2 Zp CA CK CV cg lG BO BB2
            have CK := keep (And.intro k0 (And.intro k1 (And.intro k2 k3)))
            have CV := keep (And.intro v0 (And.intro v1 (And.intro v2 v3)))
            have CA := keep (And.intro a0 (And.intro a1 (And.intro a2 a3)))
            generalize wc = w23 at *
            have c0 := cell_regrown (G3.out.cells 0)
            have c1 := cell_regrown (G3.out.cells 1)
            have d0 := cell_regrown v0
            have e0 := cell_regrown k0
            have WBq := keep (fun w d os => Calls.regrown_of (WB.out (grow (redrawn w d) os)))
            clear k0 k1 k2 k3 v0 v1 v2 v3 a0 a1 a2 a3 WB
            go_wp2_with fail
            refine wp_region_quiet_below (by as_aux_lemma => kernel_rfl) (by as_aux_lemma => kernel_rfl) ?_
            repeat (any_goals (go_big_quiet_step (first | (with_reducible exact WBq.out _ _ _))))
            refine wpQuiet_nil ?_
            intro w8 hw8
            obtain ⟨⟨d8, os8⟩, rfl⟩ := hw8
            have hb := below_regrown w23 d8 os8
            generalize grow (redrawn w23 d8) os8 = w24 at *
            clear c0 c1 d0 e0 WBq
            have Zp4 := keep (Zp3.out.after hb)
            have Zq4 := keep (Zq.out.after hb)
            have hsz2 := hb.size
            have BB4 := keep (BB3.out.trans (hb.mono BB3.out.size))
            have a0 := (hb.cell (p := ⟨gA, i * 4, none⟩) lA).trans CA.out.1
            have a1 := (hb.cell (p := ⟨gA, i * 4 + 1, none⟩) lA).trans CA.out.2.1
            have a2 := (hb.cell (p := ⟨gA, i * 4 + 2, none⟩) lA).trans CA.out.2.2.1
            have a3 := (hb.cell (p := ⟨gA, i * 4 + 3, none⟩) lA).trans CA.out.2.2.2
            have k0 := (hb.cell (p := ⟨gK, i * 4, none⟩) lK).trans CK.out.1
            have k1 := (hb.cell (p := ⟨gK, i * 4 + 1, none⟩) lK).trans CK.out.2.1
            have k2 := (hb.cell (p := ⟨gK, i * 4 + 2, none⟩) lK).trans CK.out.2.2.1
            have k3 := (hb.cell (p := ⟨gK, i * 4 + 3, none⟩) lK).trans CK.out.2.2.2
            have v0 := (hb.cell (p := ⟨gV, i * 4, none⟩) lV).trans CV.out.1
            have v1 := (hb.cell (p := ⟨gV, i * 4 + 1, none⟩) lV).trans CV.out.2.1
            have v2 := (hb.cell (p := ⟨gV, i * 4 + 2, none⟩) lV).trans CV.out.2.2.1
            have v3 := (hb.cell (p := ⟨gV, i * 4 + 3, none⟩) lV).trans CV.out.2.2.2
            have lA : gA < w24.heap.size := by omega
            have lK : gK < w24.heap.size := by omega
            have lV : gV < w24.heap.size := by omega
            have lp := Zp4.out.in_heap
            have lq := Zq4.out.in_heap
            have zp0 := Zp4.out.cells 0
            have zp1 := Zp4.out.cells 1
            have zp2 := Zp4.out.cells 2
            have zp3 := Zp4.out.cells 3
            have zq0 := Zq4.out.cells 0
            have zq1 := Zq4.out.cells 1
            have zq2 := Zq4.out.cells 2
            have zq3 := Zq4.out.cells 3
            clear hb hsz2 G3 Zp3 Zq CA CK CV BB3 v0 v2 v3
            have s1 := S1.out
            have s2 := S2.out
            have cw := CW.out
            go_wp2_with fail
            go_cut [236] (fun sb wx => sb = .bool false ∧ Below w24.heap.size w24 wx)
            case first =>
              as_aux_lemma =>
                replace a0 := cell_regrown a0
                replace a1 := cell_regrown a1
                replace a2 := cell_regrown a2
                replace a3 := cell_regrown a3
                replace k0 := cell_regrown k0
                replace k1 := cell_regrown k1
                replace k2 := cell_regrown k2
                replace k3 := cell_regrown k3
                replace v1 := cell_regrown v1
                replace zp0 := cell_regrown zp0
                replace zp1 := cell_regrown zp1
                replace zp2 := cell_regrown zp2
                replace zp3 := cell_regrown zp3
                replace zq0 := cell_regrown zq0
                replace zq1 := cell_regrown zq1
                replace zq2 := cell_regrown zq2
                replace zq3 := cell_regrown zq3
                clear lA lK lV lp lq
                refine wp_region_held (S := fun w' => ∃ p : Regrown, w' = grow (redrawn w24 p.d) p.os) (by kernel_rfl) ?_
                refine wpAnyH_seg (by kernel_rfl) (fun _ _ d _ _ h => by cases d <;> exact h) 33 13 0 _ _ _ ⟨⟨w24.drawn + 1, #[]⟩, by rw [grow_empty]; rfl⟩ (by kernel_rfl) ?_
                simp only [List.drop_succ_cons, List.drop_zero, List.take_succ_cons, List.take_zero]
                repeat (any_goals (go_big_quiet_step (fail)))
                refine wpQuiet_nil ?_
                intro w1 hw1
                obtain ⟨⟨d1, os1⟩, rfl⟩ := hw1
                refine wpAnyH_seg (by kernel_rfl) (fun _ _ d _ _ h => by cases d <;> exact h) 25 8 14 _ _ _ ⟨⟨d1, os1⟩, rfl⟩ (by kernel_rfl) ?_
                simp only [List.drop_succ_cons, List.drop_zero, List.take_succ_cons, List.take_zero]
                repeat (any_goals (go_big_quiet_step (fail)))
                refine wpQuiet_nil ?_
                intro w2 hw2
                obtain ⟨⟨d2, os2⟩, rfl⟩ := hw2
                have hb2 := below_regrown w24 d2 os2
                have KV := keep (And.intro k1 v1)
                clear a0 a1 a2 a3 k0 k1 k2 k3 v1 zp0 zp1 zp2 zp3 zq0 zq1 zq2 zq3
                generalize grow (redrawn w24 d2) os2 = w2 at *
                have h1 := hb2.alloc hb2.size (.cells #[.complex .f32 x' y', .complex .f32 u' v', .float .f32 qq', .float .f32 m', .complex .f32 x2 y2, .complex .f32 u2 v2', .float .f32 q2', .float .f32 m2] 41)
                have h2 := h1.alloc h1.size (.cells #[.complex .f32 x' y', .complex .f32 u' v', .float .f32 qq', .float .f32 m', .complex .f32 x2 y2, .complex .f32 u2 v2', .float .f32 q2', .float .f32 m2] 41)
                have b1 := Has.made w2 41 #[.complex .f32 x' y', .complex .f32 u' v', .float .f32 qq', .float .f32 m', .complex .f32 x2 y2, .complex .f32 u2 v2', .float .f32 q2', .float .f32 m2]
                have b2 := has_at (w2.alloc (.cells #[.complex .f32 x' y', .complex .f32 u' v', .float .f32 qq', .float .f32 m', .complex .f32 x2 y2, .complex .f32 u2 v2', .float .f32 q2', .float .f32 m2] 41)) 41 #[.complex .f32 x' y', .complex .f32 u' v', .float .f32 qq', .float .f32 m', .complex .f32 x2 y2, .complex .f32 u2 v2', .float .f32 q2', .float .f32 m2] (w2.heap.size + 1) (by simp)
                replace b1 := keep (b1.beside (.cells #[.complex .f32 x' y', .complex .f32 u' v', .float .f32 qq', .float .f32 m', .complex .f32 x2 y2, .complex .f32 u2 v2', .float .f32 q2', .float .f32 m2] 41))
                replace b2 := keep b2
                replace h1 := keep h1
                replace h2 := keep h2
                refine wpAnyH_ready (rs := [13, 22]) (by kernel_rfl) (by simp) ?_
                refine AllReadyH.cons rfl (fun K hK => ?_) (AllReadyH.cons rfl (fun K hK => ?_) AllReadyH.nil)
                · refine of_wanted (by kernel_rfl) ?_
                  refine wp_two (.tmp 202) (.tmp 203) rfl ⟨x', y', u', v', qq', m'⟩ ⟨x2, y2, u2, v2', q2', m2⟩ (by kernel_rfl) (by kernel_rfl) ?_
                  refine hK.out _ _ (regrown_of_below h1.out) (fun _ => ?_)
                  clear hK K
                  refine wpAnyH_ready (rs := [22]) (by kernel_rfl) (by simp) ?_
                  refine AllReadyH.cons rfl (fun K hK => ?_) AllReadyH.nil
                  refine of_wanted (by kernel_rfl) ?_
                  refine wp_two (.tmp 208) (.tmp 212) rfl ⟨x', y', u', v', qq', m'⟩ ⟨x2, y2, u2, v2', q2', m2⟩ (by kernel_rfl) (by kernel_rfl) ?_
                  refine hK.out _ _ (regrown_of_below h2.out) (fun _ => ?_)
                  clear hK K
                  refine wpAnyH_ready (rs := [23]) (by kernel_rfl) (by simp) ?_
                  refine AllReadyH.cons rfl (fun K hK => ?_) AllReadyH.nil
                  go_simp
                  refine (SM.out _ _ _ b1.out b2.out).mono ?_
                  rintro e w3 ⟨rfl, hb3⟩
                  refine hK.out _ _ (regrown_of_below (h2.out.trans (hb3.mono h2.out.size))) (fun hS3 => ?_)
                  clear hK K
                  refine wpAnyH_seg (by kernel_rfl) (fun _ _ d _ _ h => by cases d <;> exact h) 18 4 24 _ _ _ hS3 (by kernel_rfl) ?_
                  clear hS3
                  simp only [List.drop_succ_cons, List.drop_zero, List.take_succ_cons, List.take_zero]
                  repeat (any_goals (go_big_quiet_step (fail)))
                  refine wpQuiet_nil ?_
                  intro w4 hw4
                  obtain ⟨⟨d4, os4⟩, rfl⟩ := hw4
                  refine wpAnyH_ready (rs := [28]) (by kernel_rfl) (by simp) ?_
                  refine AllReadyH.cons rfl (fun K hK => ?_) AllReadyH.nil
                  go_simp
                  refine (LG.out _).mono ?_
                  rintro e w' ⟨rfl, hw⟩
                  have hw := hw.symm
                  subst hw
                  refine hK.out _ _ ⟨⟨d4, os4⟩, rfl⟩ (fun hS4 => ?_)
                  clear hK K
                  have k1 := KV.out.1
                  have v1 := KV.out.2
                  refine wpAnyH_seg (by kernel_rfl) (fun _ _ d _ _ h => by cases d <;> exact h) 3 14 29 _ _ _ hS4 (by kernel_rfl) ?_
                  clear hS4
                  simp only [List.drop_succ_cons, List.drop_zero, List.take_succ_cons, List.take_zero]
                  repeat (any_goals (go_big_quiet_step (fail)))
                  refine wpQuiet_nil ?_
                  intro w5 hw5
                  obtain ⟨⟨d5, os5⟩, rfl⟩ := hw5
                  refine wpAnyH_ready (rs := [43]) (by kernel_rfl) (by simp) ?_
                  refine AllReadyH.cons rfl (fun K hK => ?_) AllReadyH.nil
                  go_simp
                  refine (AP.out _).mono ?_
                  rintro e w' ⟨rfl, hw⟩
                  have hw := hw.symm
                  subst hw
                  refine hK.out _ _ ⟨⟨d5, os5⟩, rfl⟩ (fun hS5 => ?_)
                  clear hK K
                  refine wpAnyH_seg (by kernel_rfl) (fun _ _ d _ _ h => by cases d <;> exact h) 0 2 44 _ _ _ hS5 (by kernel_rfl) ?_
                  clear hS5
                  simp only [List.drop_succ_cons, List.drop_zero, List.take_succ_cons, List.take_zero]
                  repeat (any_goals (go_big_quiet_step (fail)))
                  refine wpQuiet_nil ?_
                  intro w6 hw6
                  obtain ⟨⟨d6, os6⟩, rfl⟩ := hw6
                  refine wpAnyH_end (by kernel_rfl) ?_ _
                  go_wp2_with fail
                  go_meet
                  exact ⟨rfl, below_regrown w24 d6 os6⟩
                · refine of_wanted (by kernel_rfl) ?_
                  refine wp_two (.tmp 208) (.tmp 212) rfl ⟨x', y', u', v', qq', m'⟩ ⟨x2, y2, u2, v2', q2', m2⟩ (by kernel_rfl) (by kernel_rfl) ?_
                  refine hK.out _ _ (regrown_of_below h1.out) (fun _ => ?_)
                  clear hK K
                  refine wpAnyH_ready (rs := [13]) (by kernel_rfl) (by simp) ?_
                  refine AllReadyH.cons rfl (fun K hK => ?_) AllReadyH.nil
                  refine of_wanted (by kernel_rfl) ?_
                  refine wp_two (.tmp 202) (.tmp 203) rfl ⟨x', y', u', v', qq', m'⟩ ⟨x2, y2, u2, v2', q2', m2⟩ (by kernel_rfl) (by kernel_rfl) ?_
                  refine hK.out _ _ (regrown_of_below h2.out) (fun _ => ?_)
                  clear hK K
                  refine wpAnyH_ready (rs := [23]) (by kernel_rfl) (by simp) ?_
                  refine AllReadyH.cons rfl (fun K hK => ?_) AllReadyH.nil
                  go_simp
                  refine (SM.out _ _ _ b2.out b1.out).mono ?_
                  rintro e w3 ⟨rfl, hb3⟩
                  refine hK.out _ _ (regrown_of_below (h2.out.trans (hb3.mono h2.out.size))) (fun hS3 => ?_)
                  clear hK K
                  refine wpAnyH_seg (by kernel_rfl) (fun _ _ d _ _ h => by cases d <;> exact h) 18 4 24 _ _ _ hS3 (by kernel_rfl) ?_
                  clear hS3
                  simp only [List.drop_succ_cons, List.drop_zero, List.take_succ_cons, List.take_zero]
                  repeat (any_goals (go_big_quiet_step (fail)))
                  refine wpQuiet_nil ?_
                  intro w4 hw4
                  obtain ⟨⟨d4, os4⟩, rfl⟩ := hw4
                  refine wpAnyH_ready (rs := [28]) (by kernel_rfl) (by simp) ?_
                  refine AllReadyH.cons rfl (fun K hK => ?_) AllReadyH.nil
                  go_simp
                  refine (LG.out _).mono ?_
                  rintro e w' ⟨rfl, hw⟩
                  have hw := hw.symm
                  subst hw
                  refine hK.out _ _ ⟨⟨d4, os4⟩, rfl⟩ (fun hS4 => ?_)
                  clear hK K
                  have k1 := KV.out.1
                  have v1 := KV.out.2
                  refine wpAnyH_seg (by kernel_rfl) (fun _ _ d _ _ h => by cases d <;> exact h) 3 14 29 _ _ _ hS4 (by kernel_rfl) ?_
                  clear hS4
                  simp only [List.drop_succ_cons, List.drop_zero, List.take_succ_cons, List.take_zero]
                  repeat (any_goals (go_big_quiet_step (fail)))
                  refine wpQuiet_nil ?_
                  intro w5 hw5
                  obtain ⟨⟨d5, os5⟩, rfl⟩ := hw5
                  refine wpAnyH_ready (rs := [43]) (by kernel_rfl) (by simp) ?_
                  refine AllReadyH.cons rfl (fun K hK => ?_) AllReadyH.nil
                  go_simp
                  refine (AP.out _).mono ?_
                  rintro e w' ⟨rfl, hw⟩
                  have hw := hw.symm
                  subst hw
                  refine hK.out _ _ ⟨⟨d5, os5⟩, rfl⟩ (fun hS5 => ?_)
                  clear hK K
                  refine wpAnyH_seg (by kernel_rfl) (fun _ _ d _ _ h => by cases d <;> exact h) 0 2 44 _ _ _ hS5 (by kernel_rfl) ?_
                  clear hS5
                  simp only [List.drop_succ_cons, List.drop_zero, List.take_succ_cons, List.take_zero]
                  repeat (any_goals (go_big_quiet_step (fail)))
                  refine wpQuiet_nil ?_
                  intro w6 hw6
                  obtain ⟨⟨d6, os6⟩, rfl⟩ := hw6
                  refine wpAnyH_end (by kernel_rfl) ?_ _
                  go_wp2_with fail
                  go_meet
                  exact ⟨rfl, below_regrown w24 d6 os6⟩
            
            case rest =>
              obtain ⟨rfl, hbz⟩ := hcut
              have BB5 := keep (BB4.out.trans (hbz.mono BB4.out.size))
              go_wp2_with fail
              go_roundw
              case rel => exact ⟨i + 1, by omega, by go_num, BB5⟩
              case measure => simp [intOf]; omega
      · obtain rfl : i = N := by omega
        go_wp2_with fail
        go_ret
        exact ⟨rfl, B11.out.trans (hbr.out.mono B11.out.size)⟩
end Go.Proofs.Ytdonmboidpppmaa
