/- The law FnSolved by its walk: many sweeps solve a potential of small integers, nearly, workers sweep the same, to the last bit, and a field that is the same everywhere has nothing. No condition but that the bytes can be read. -/
import Derived.Test.YtmlocjcfcmifdaaXw
import Derived.Test.YtmlocjcfcmifdaaXn
namespace Go.Proofs.Ytmlocjcfcmifdaa
open Go.RowKit Go.Sort Ieee
set_option linter.unusedSimpArgs false
set_option linter.unusedVariables false

set_option maxHeartbeats 16000000 in
set_option maxRecDepth 100000 in
theorem lawSolved_any (a1 a2 : Option Addr) (n1 c1 n2 c2 : Nat) (w : World) (hb1 : Bytes w a1 n1) (hb2 : Bytes w a2 n2) :
    Calls Try.prog 4 #[.slice a1 n1 c1, .slice a2 n2 c2] w fun e w' => e = .returned (.bool true) ∧ Below w.heap.size w w' := by
  have LO := keep (fun w => zb10Long a1 a2 n1 c1 n2 c2 w)
  cases hl : (decide (1048576 < n1) || decide (1048576 < n2))
  case true =>
    rw [hl] at LO
    clear hl hb1 hb2
    go_enter Try.func4, Try.ntmps4
    go_wp2_with fail
    refine (LO.out _).mono ?_
    rintro e w' ⟨rfl, rfl⟩
    go_wp2_with fail
    go_ret
    exact ⟨rfl, by go_grown⟩
  case false =>
    rw [hl] at LO
    have HB1 := keep hb1
    have HB2 := keep hb2
    clear hl hb1 hb2
    go_enter Try.func4, Try.ntmps4
    go_wp2_with fail
    refine (LO.out _).mono ?_
    rintro e w' ⟨rfl, hw⟩
    have hw := hw.symm
    subst hw
    clear LO
    go_wp2_with fail
    refine (B10Grid_ok a1 n1 c1 _ HB1.out).mono ?_
    rintro e w5 ⟨W, H, hs, rfl, hb⟩
    have hG : Gd W H := hs
    have hS : Sd W H := ⟨⟨hs.1.1, by omega⟩, hs.2.1, by omega⟩
    have SL := sd_le W H hS
    have HS := keep hs
    have B6 := keep hb
    have G6 := keep (Has.made w5 36 #[.int .i64 W, .int .i64 H])
    have B7 := keep (B6.out.alloc B6.out.size (.cells #[.int .i64 W, .int .i64 H] 36))
    have DF := keep (fun w hb => B10Field_ok W H hS a2 n2 c2 w hb)
    have W3 := hs.1.1
    have W7 := hs.1.2
    have H7 := hs.2.2
    clear hs hb
    have EN0 : Kept (∃ n : Nat, n = W * H) := keep ⟨_, rfl⟩
    have cg := G6.out.cells
    unfold gV at *
    go_wp2_with fail
    refine (DF.out _ ((xaft HB2.out B6.out).xalloc _)).mono ?_
    rintro e w6 ⟨f, gf, kf, hf, rfl, lf, Ff, hb⟩
    have G7 := keep (G6.out.after hb)
    have B8 := keep (B7.out.trans (hb.mono B7.out.size))
    have FF := keep Ff
    obtain ⟨m, r, m2, o, q, y, M, m3, Mm, Gp, en, m4, r4, T⟩ := solved_any hG f hf
    have T := keep T
    have SP := fun g c w hc => SolvePotential_ok W H hS T.out.a1 T.out.a2 T.out.a3 g c w hc
    have RE := fun g1 g2 c1 c2 w hv hc => ResidualOf_ok W H hS T.out.a1 T.out.a4 T.out.a5 T.out.a6 g1 g2 c1 c2 w hv hc
    have ME := fun g c w hv => MeanOf_ok W H hS o (mS o) m3 rfl T.out.a8 T.out.a9 g c w hv
    have FE := fun g1 g2 c1 c2 w hv hc => FieldEnergy_ok W H hS T.out.a1 T.out.b4 T.out.b5 g1 g2 c1 c2 w hv hc
    have WM := fun g c w hv => WithoutMean_ok W H hS T.out.a1 g c w hv
    have LA := fun g c w hv => LaplaceOf_ok W H hS (fun _ => 1077936128) _ flat_any g c w hv
    have SC := fun k (hk : k < 2) g1 g2 c1 c2 w hv hc => SweepColour_ok W H hS k hk T.out.b7 (T.out.b8 k) g1 g2 c1 c2 w hv hc
    have SS := fun hW hH k j (hk : k < 2) hj1 hj2 g1 g2 c1 c2 w hv hc => SweepShared_ok W H hS hW hH k j hk hj1 hj2 T.out.b7 (T.out.b8 k) g1 g2 c1 c2 w hv hc
    have SN := fun ho a b q k w => SweepShared_no W H ho a b q k w
    have BL := fun k g1 g2 c1 c2 w h1 h2 => b10List_ok (W * H) (by omega) (swS W H k r4 (W * H) (fun i => iw (f i))) (fun i hi => self_eq (T.out.b9 k i hi)) g1 g2 c1 c2 w h1 h2
    have SE := keep (fun k i (h : (i % W + i / W) % 2 ≠ k) => swS_else W H k r4 (fun i => iw (f i)) i h (W * H))
    have SM := keep (fun i (hi : i < W * H) w => xsame (iw (f i)) (self_eq (wn_iw (f i) 5 (hf i hi) (by omega)).1.nm) w)
    unfold gV at SP RE ME FE WM LA SC SS SN
    have SP := keep SP
    have RE := keep RE
    have ME := keep ME
    have FE := keep FE
    have WM := keep WM
    have LA := keep LA
    have SC := keep SC
    have SS := keep SS
    have SN := keep SN
    have BL := keep BL
    have O7 : (FloatKind.f32.format.order (M (W * H)) 1028443341) = some .lt := T.out.a7
    have O8 : (FloatKind.f64.format.order Gp 4576918229304087675 == some .gt) = false := T.out.b3
    have O9 : (FloatKind.f32.format.order en 3156465418 == some .lt) = false := T.out.b6
    have O9' : ¬ (FloatKind.f32.format.order en 3156465418 = some .lt) := by rw [beq_eq_false_iff_ne] at O9; exact O9
    have GP := keep (fun w => b10Gap_ok Mm 0 Gp T.out.b2 w)
    have dM := fun w => zconv32 _ _ T.out.b1 w
    clear hf Ff hb DF B6 B7 G6 cg lf T hS hG
    generalize M (W * H) = Mn at *
    generalize W * H = n at *
    have hne : ((n : Int) != (n : Int)) = false := by simp
    have cg := G7.out.cells
    go_wp2_with fail
    refine (SP.out gf _ _ FF.out).mono ?_
    rintro e w7 ⟨gv, dv, cv, rfl, lv, hv, cwv, _, hb⟩
    have G8 := keep (G7.out.after hb)
    have B9 := keep (B8.out.trans (hb.mono B8.out.size))
    have FF2 := keep (FF.out.after hb)
    have FV := keep (cwv.fw hv)
    clear hv cwv hb SP B8 G7 FF cg lv
    have cg := G8.out.cells
    go_wp2_with fail
    refine (RE.out gv gf _ _ _ FV.out FF2.out).mono ?_
    rintro e w8 ⟨rfl, hb⟩
    have G9 := keep (G8.out.after hb)
    have B10 := keep (B9.out.trans (hb.mono B9.out.size))
    have FF3 := keep (FF2.out.after hb)
    have FV2 := keep (FV.out.after hb)
    clear hb RE B9 G8 FF2 FV cg
    have cg := G9.out.cells
    go_wp2_with fail
    refine (ME.out gv _ _ FV2.out).mono ?_
    rintro e w9 ⟨rfl, hb⟩
    have G10 := keep (G9.out.after hb)
    have B11 := keep (B10.out.trans (hb.mono B10.out.size))
    have FF4 := keep (FF3.out.after hb)
    have FV3 := keep (FV2.out.after hb)
    clear hb ME B10 G9 FF3 FV2 cg
    have cg := G10.out.cells
    go_wp2_with fail
    refine (FE.out gv gf _ _ _ FV3.out FF4.out).mono ?_
    rintro e w10 ⟨rfl, hb⟩
    have G11 := keep (G10.out.after hb)
    have B12 := keep (B11.out.trans (hb.mono B11.out.size))
    have FF5 := keep (FF4.out.after hb)
    clear hb FE B11 G10 FF4 FV3 cg
    have cg := G11.out.cells
    go_wp2_with fail
    refine (WM.out gf _ _ FF5.out).mono ?_
    rintro e w11 ⟨gm, dm, cm, rfl, lm, hm, cwm, hb⟩
    have G12 := keep (G11.out.after hb)
    have B13 := keep (B12.out.trans (hb.mono B12.out.size))
    have FF6 := keep (FF5.out.after hb)
    have FM := keep (cwm.fw hm)
    clear hm cwm hb WM B12 G11 FF5 cg lm
    go_wp2_with fail
    refine (GP.out _).mono ?_
    rintro e w' ⟨rfl, hw⟩
    have hw := hw.symm
    subst hw
    clear GP
    go_wp2_with fail
    clear O7 O8 O9 O9' dM hne
    have FM2 := keep (FM.out.beside (.cells #[] 28))
    have E0 : Kept ((w11.alloc (.cells #[] 28)).ownsRow w11.heap.size 28 1 (.slice (some ⟨w11.heap.size, 0, none⟩) 0 0) 0 (wList 0 (fun _ => 1077936128))) := keep ⟨rfl, .inr ⟨w11.heap.size, 0, #[], rfl, Nat.le_refl _, Has.made w11 28 #[], Nat.le_refl _, by simp [maxLen], rfl, rfl⟩⟩
    have L0 := keep ((Below.refl w11.heap.size w11).alloc (Nat.le_refl _) (.cells #[] 28))
    have UP : Kept (∀ j, updW (fun _ => 1077936128) j 1077936128 = fun _ => 1077936128) := keep (fun j => by
      unfold updW
      funext i
      split <;> rfl)
    clear FM2
    go_loopw [110, 17] (fun s va wr => ∃ (j : Nat) (A : Option Addr) (ca : Nat), j ≤ n ∧ s = .int .i64 j ∧ va = .slice A j ca ∧ Kept (wr.ownsRow w11.heap.size 28 1 (.slice A j ca) j (wList j (fun _ => 1077936128))) ∧ Kept (Below w11.heap.size w11 wr)) (fun s _ _ => n - (intOf s).toNat)
    case atStart => exact ⟨0, _, _, Nat.zero_le _, rfl, rfl, E0, L0⟩
    case round =>
      clear E0 L0
      obtain ⟨j, A, ca, hj, rfl, rfl, ho, hb⟩ := hrel
      by_cases hlt : j < n
      · have hlt' : (j : Int) < (n : Int) := by omega
        go_wp2_with (at_builtin; go_loud (refine wpList_append_word rfl _ _ rfl w11.heap.size (.slice A j ca) j (fun _ => 1077936128) wr.heap.size 1077936128 rfl (ho.out.alloc _) rfl ((zhas_one wr (.float .f32 1077936128) 28).cells 0) (by omega) ?cb ?_))
        case cb =>
          have := hb.out.size
          first | omega | (simp only [World.size_alloc]; omega)
        intro A2 ca2 w2 hown hgrow hor
        have b2 := keep ((hb.out.alloc hb.out.size (.cells #[.float .f32 1077936128] 28)).trans (grown_below (ho.out.alloc (.cells #[.float .f32 1077936128] 28)) hgrow (by have := hb.out.size; simp only [World.size_alloc]; omega)))
        rw [UP.out] at hown
        have OW := keep hown
        clear hown hgrow hor ho hb
        go_wp2_with fail
        go_roundw
        case rel => exact ⟨j + 1, A2, ca2, by omega, by go_num, rfl, OW, b2⟩
        case measure => simp [intOf]; omega
      · obtain rfl : j = n := by omega
        obtain ⟨gA, rfl, lA⟩ := own_form' ho.out (by omega)
        have FA := keep (own_fw ho.out)
        have G13 := keep (G12.out.after hb.out)
        have B14 := keep (B13.out.trans (hb.out.mono B13.out.size))
        have FF7 := keep (FF6.out.after hb.out)
        have FM3 := keep (FM.out.after hb.out)
        clear ho hb G12 B13 FF6 FM UP hlt lA hj
        generalize wr = w12 at *
        have cg := G13.out.cells
        go_wp2_with fail
        refine (LA.out gA _ _ FA.out).mono ?_
        rintro e w13 ⟨gz, cz, rfl, lz, hz, cwz, hb⟩
        have FZ := keep ((cwz.congr (g := fun _ => 0) (fun i hi => rfl)).fw hz)
        have G14 := keep (G13.out.after hb)
        have B15 := keep (B14.out.trans (hb.mono B14.out.size))
        have FF8 := keep (FF7.out.after hb)
        have FM4 := keep (FM3.out.after hb)
        clear hz cwz hb LA FA G13 B14 FF7 FM3 cg lz
        have oz : FloatKind.f32.format.order 0 0 = some .eq := self_eq nm0.1
        go_wp2_with fail
        go_loopw [126] (fun s wr => ∃ k : Nat, k ≤ j ∧ s = .int .i64 k ∧ wr = w13) (fun s _ => j - (intOf s).toNat)
        case atStart => exact ⟨0, Nat.zero_le _, rfl, rfl⟩
        case round =>
          obtain ⟨k, hk, rfl, rfl⟩ := hrel
          by_cases hlt : k < j
          · have hlt' : (k : Int) < (j : Int) := by omega
            have z1 := FZ.out.2 k hlt
            go_wp2_with fail
            go_roundw
            case rel => exact ⟨k + 1, by omega, by go_num, by first | rfl | trivial⟩
            case measure => simp [intOf]; omega
          · obtain rfl : k = j := by omega
            clear oz FZ hlt hk
            have HB := keep (xaft HB2.out B15.out)
            go_wp2_with fail
            refine (zb10At a2 n2 c2 0 2 _ HB.out (by omega) (by omega) (by omega)).mono ?_
            rintro e w' ⟨⟨cc, hcc, rfl⟩, hw⟩
            have hw := hw.symm
            subst hw
            have HCC := keep hcc
            clear hcc
            have cg := G14.out.cells
            go_wp2_with fail
            refine (SC.out cc HCC.out gf gm _ _ _ FF8.out FM4.out).mono ?_
            rintro e w14 ⟨go, d0', rfl, lo, hfo, hb⟩
            have FO := keep hfo
            have G15 := keep (G14.out.after hb)
            have B16 := keep (B15.out.trans (hb.mono B15.out.size))
            have FF9 := keep (FF8.out.after hb)
            have FM5 := keep (FM4.out.after hb)
            clear hfo hb SC G14 B15 FF8 FM4 cg lo HB
            have HBB := keep (xaft HB2.out B16.out)
            have cg := G15.out.cells
            go_wp2_with fail
            have w1b : ∀ t : Nat, t < 8 → IntKind.i64.wrap (1 + (t : Int)) = ((t + 1 : Nat) : Int) := fun t ht => by
              rw [show 1 + (t : Int) = ((t + 1 : Nat) : Int) by omega]
              exact IntWalk.i64_in _ ⟨by omega, by omega⟩
            have DG := keep (fun w1 (hb : Below w14.heap.size w14 w1) => (G15.out.after hb).cells)
            by_cases hev : W % 2 = 0 ∧ H % 2 = 0
            · obtain ⟨ev1, ev2⟩ := hev
              have tW : Int.tmod (W : Int) 2 = 0 := by rw [Int.tmod_eq_emod_of_nonneg (by omega)]; omega
              have tH : Int.tmod (H : Int) 2 = 0 := by rw [Int.tmod_eq_emod_of_nonneg (by omega)]; omega
              have t3 : IntKind.i64.wrap 0 = 0 := by decide
              have SSE := keep (fun j hj1 hj2 g1 g2 c1 c2 w hv hc => SS.out ev1 ev2 cc j HCC.out hj1 hj2 g1 g2 c1 c2 w hv hc)
              clear SN SS
              go_region_law (first
                | (go_simp
                   go_at_call 8
                   refine (zb10At a2 n2 c2 1 8 _ (xaft HBB.out (Below.drew (Below.refl _ _))) (by omega) (by omega) (by omega)).mono ?_
                   rintro e w' ⟨⟨t, ht, rfl⟩, hw⟩
                   have hw := hw.symm
                   subst hw
                   have HT := keep ht
                   have wt := w1b t ht
                   clear ht)
                | (go_simp
                   go_at_call 23
                   have e1 : (t : Int) + 1 = ((t + 1 : Nat) : Int) := by omega
                   rw [e1]
                   refine (SSE.out (t + 1) (by omega) (by have := HT.out; omega) gf gm _ _ _ (FF9.out.after (Below.drew (Below.refl _ _))) (FM5.out.after (Below.drew (Below.refl _ _)))).mono ?_
                   rintro e w15 ⟨gq, dq, rfl, lq, hfq, hb⟩
                   have FQ := keep hfq
                   have BQ := keep ((Below.drew (Below.refl w14.heap.size w14)).trans hb)
                   clear hfq hb lq e1))
              all_goals
                have G16 := keep (G15.out.after BQ.out)
                have B17 := keep (B16.out.trans (BQ.out.mono B16.out.size))
                have FO2 := keep (FO.out.after BQ.out)
                have FF10 := keep (FF9.out.after BQ.out)
                clear cg DG G15 B16 FO FF9 FM5 BQ SSE w1b wt HBB HB2
                have cg := G16.out.cells
                have hne : ((k : Int) != (k : Int)) = false := by simp
                go_wp2_with fail
                clear cg hne
                go_loopw [181] (fun s wr => ∃ i : Nat, i ≤ k ∧ s = .int .i64 i ∧ Kept (Below w15.heap.size w15 wr)) (fun s _ => k - (intOf s).toNat)
                case atStart => exact ⟨0, Nat.zero_le _, rfl, keep (Below.refl _ _)⟩
                case round =>
                  obtain ⟨i, hi, rfl, hb⟩ := hrel
                  by_cases hlt : i < k
                  · have hlt' : (i : Int) < (k : Int) := by omega
                    have g0 := cell_regrown ((G16.out.after hb.out).cells 0)
                    have g1 := cell_regrown ((G16.out.after hb.out).cells 1)
                    have z1 := cell_regrown ((FO2.out.after hb.out).2 i hlt)
                    have z2 := cell_regrown ((FF10.out.after hb.out).2 i hlt)
                    obtain ⟨q1, hq1⟩ : ∃ q1 : Nat, q1 = i % W := ⟨_, rfl⟩
                    obtain ⟨q2, hq2⟩ : ∃ q2 : Nat, q2 = i / W := ⟨_, rfl⟩
                    obtain ⟨q3, hq3⟩ : ∃ q3 : Nat, q3 = (q1 + q2) % 2 := ⟨_, rfl⟩
                    have b1 : q1 < 10 := by rw [hq1]; have := Nat.mod_lt i (show 0 < W by omega); omega
                    have b2 : q2 ≤ i := by rw [hq2]; exact Nat.div_le_self _ _
                    have W0 : ¬ (W : Int) = 0 := by omega
                    have r1 : Int.tmod (i : Int) (W : Int) = (q1 : Int) := by rw [Int.tmod_eq_emod_of_nonneg (by omega), hq1]; rfl
                    have r2 : Int.tdiv (i : Int) (W : Int) = (q2 : Int) := by rw [hq2]; rfl
                    have r3 : Int.tmod ((q1 : Int) + (q2 : Int)) 2 = (q3 : Int) := by
                      rw [show (q1 : Int) + (q2 : Int) = ((q1 + q2 : Nat) : Int) by omega, Int.tmod_eq_emod_of_nonneg (by omega), hq3]; rfl
                    have x1 : IntKind.i64.wrap (q1 : Int) = (q1 : Int) := IntWalk.i64_in _ ⟨by omega, by omega⟩
                    have x2 : IntKind.i64.wrap (q2 : Int) = (q2 : Int) := IntWalk.i64_in _ ⟨by omega, by omega⟩
                    have x3 : IntKind.i64.wrap ((q1 : Int) + (q2 : Int)) = (q1 : Int) + (q2 : Int) := IntWalk.i64_in _ ⟨by omega, by omega⟩
                    have x4 : IntKind.i64.wrap (q3 : Int) = (q3 : Int) := IntWalk.i64_in _ ⟨by omega, by omega⟩
                    by_cases hc : q3 = cc
                    · have hnb : ((q3 : Int) != (cc : Int)) = false := by rw [hc]; simp
                      clear hq1 hq2 hq3 hc z1 z2
                      go_wp2_with fail
                      refine wp_region_quiet_below (by as_aux_lemma => kernel_rfl) (by as_aux_lemma => kernel_rfl) ?_
                      repeat (any_goals (go_big_quiet_step (fail)))
                      refine wpQuiet_nil ?_
                      intro wz hwz
                      obtain ⟨⟨dz, oz⟩, rfl⟩ := hwz
                      have hbz := below_regrown wr dz oz
                      generalize grow (redrawn wr dz) oz = wz at *
                      have BZ := keep (hb.out.trans (hbz.mono hb.out.size))
                      clear hbz g0 g1
                      go_wp2_with fail
                      go_roundw
                      case rel => exact ⟨i + 1, by omega, by go_num, BZ⟩
                      case measure => simp [intOf]; omega
                    · have hnb : ((q3 : Int) != (cc : Int)) = true := by simp; omega
                      have e := SE.out cc i (by rw [← hq1, ← hq2, ← hq3]; exact hc)
                      rw [e] at z1
                      have SMR := keep (fun w d os => Calls.regrown_of ((SM.out i hlt (grow (redrawn w d) os)).mono fun _ _ ⟨he, hw⟩ => ⟨he, hw ▸ Below.refl _ _⟩))
                      clear hq1 hq2 hq3 hc e
                      go_wp2_with fail
                      refine wp_region_quiet_below (by as_aux_lemma => kernel_rfl) (by as_aux_lemma => kernel_rfl) ?_
                      repeat (any_goals (go_big_quiet_step (first | (with_reducible exact SMR.out _ _ _))))
                      refine wpQuiet_nil ?_
                      intro wz hwz
                      obtain ⟨⟨dz, oz⟩, rfl⟩ := hwz
                      have hbz := below_regrown wr dz oz
                      generalize grow (redrawn wr dz) oz = wz at *
                      have BZ := keep (hb.out.trans (hbz.mono hb.out.size))
                      clear hbz g0 g1 z1 z2 SMR
                      go_wp2_with fail
                      go_roundw
                      case rel => exact ⟨i + 1, by omega, by go_num, BZ⟩
                      case measure => simp [intOf]; omega
                  · obtain rfl : i = k := by omega
                    have FO3 := FO2.out.after hb.out
                    have FQ3 := FQ.out.after hb.out
                    go_wp2_with fail
                    refine (BL.out cc go gq _ _ _ FO3 FQ3).mono ?_
                    rintro e w16 ⟨rfl, hb16⟩
                    have B18 := keep (B17.out.trans (hb.out.mono B17.out.size))
                    have B19 := keep (B18.out.trans (hb16.mono B18.out.size))
                    clear hb16
                    go_wp2_with fail
                    go_ret
                    exact ⟨rfl, B19.out⟩
            · rcases (show W % 2 = 1 ∨ (W % 2 = 0 ∧ H % 2 = 1) by omega) with ev1 | ⟨ev1, ev2⟩
              · have tW : Int.tmod (W : Int) 2 = 1 := by rw [Int.tmod_eq_emod_of_nonneg (by omega)]; omega
                have t3 : IntKind.i64.wrap 0 = 0 := by decide
                have t4 : IntKind.i64.wrap 1 = 1 := by decide
                have SNO := keep (fun a b q k w => SN.out (.inl ev1) a b q k w)
                clear SN SS BL
                go_region_law (first
                  | (go_simp
                     go_at_call 8
                     refine (zb10At a2 n2 c2 1 8 _ (xaft HBB.out (Below.drew (Below.refl _ _))) (by omega) (by omega) (by omega)).mono ?_
                     rintro e w' ⟨⟨t, ht, rfl⟩, hw⟩
                     have hw := hw.symm
                     subst hw
                     have wt := w1b t ht
                     clear ht)
                  | (go_simp
                     go_at_call 23
                     refine (SNO.out _ _ _ _ _).mono ?_
                     rintro e w15 ⟨rfl, hb⟩
                     have BQ := keep ((Below.drew (Below.refl w14.heap.size w14)).trans hb)
                     clear hb))
                all_goals
                  have G16 := keep (G15.out.after BQ.out)
                  have B17 := keep (B16.out.trans (BQ.out.mono B16.out.size))
                  have FO2 := keep (FO.out.after BQ.out)
                  have FF10 := keep (FF9.out.after BQ.out)
                  clear cg DG G15 B16 FO FF9 FM5 BQ SNO w1b wt HBB HB2
                  have cg := G16.out.cells
                  have hne : ((k : Int) != (k : Int)) = false := by simp
                  go_wp2_with fail
                  clear cg hne
                  go_loopw [181] (fun s wr => ∃ i : Nat, i ≤ k ∧ s = .int .i64 i ∧ Kept (Below w15.heap.size w15 wr)) (fun s _ => k - (intOf s).toNat)
                  case atStart => exact ⟨0, Nat.zero_le _, rfl, keep (Below.refl _ _)⟩
                  case round =>
                    obtain ⟨i, hi, rfl, hb⟩ := hrel
                    by_cases hlt : i < k
                    · have hlt' : (i : Int) < (k : Int) := by omega
                      have g0 := cell_regrown ((G16.out.after hb.out).cells 0)
                      have g1 := cell_regrown ((G16.out.after hb.out).cells 1)
                      have z1 := cell_regrown ((FO2.out.after hb.out).2 i hlt)
                      have z2 := cell_regrown ((FF10.out.after hb.out).2 i hlt)
                      obtain ⟨q1, hq1⟩ : ∃ q1 : Nat, q1 = i % W := ⟨_, rfl⟩
                      obtain ⟨q2, hq2⟩ : ∃ q2 : Nat, q2 = i / W := ⟨_, rfl⟩
                      obtain ⟨q3, hq3⟩ : ∃ q3 : Nat, q3 = (q1 + q2) % 2 := ⟨_, rfl⟩
                      have b1 : q1 < 10 := by rw [hq1]; have := Nat.mod_lt i (show 0 < W by omega); omega
                      have b2 : q2 ≤ i := by rw [hq2]; exact Nat.div_le_self _ _
                      have W0 : ¬ (W : Int) = 0 := by omega
                      have r1 : Int.tmod (i : Int) (W : Int) = (q1 : Int) := by rw [Int.tmod_eq_emod_of_nonneg (by omega), hq1]; rfl
                      have r2 : Int.tdiv (i : Int) (W : Int) = (q2 : Int) := by rw [hq2]; rfl
                      have r3 : Int.tmod ((q1 : Int) + (q2 : Int)) 2 = (q3 : Int) := by
                        rw [show (q1 : Int) + (q2 : Int) = ((q1 + q2 : Nat) : Int) by omega, Int.tmod_eq_emod_of_nonneg (by omega), hq3]; rfl
                      have x1 : IntKind.i64.wrap (q1 : Int) = (q1 : Int) := IntWalk.i64_in _ ⟨by omega, by omega⟩
                      have x2 : IntKind.i64.wrap (q2 : Int) = (q2 : Int) := IntWalk.i64_in _ ⟨by omega, by omega⟩
                      have x3 : IntKind.i64.wrap ((q1 : Int) + (q2 : Int)) = (q1 : Int) + (q2 : Int) := IntWalk.i64_in _ ⟨by omega, by omega⟩
                      have x4 : IntKind.i64.wrap (q3 : Int) = (q3 : Int) := IntWalk.i64_in _ ⟨by omega, by omega⟩
                      by_cases hc : q3 = cc
                      · have hnb : ((q3 : Int) != (cc : Int)) = false := by rw [hc]; simp
                        clear hq1 hq2 hq3 hc z1 z2
                        go_wp2_with fail
                        refine wp_region_quiet_below (by as_aux_lemma => kernel_rfl) (by as_aux_lemma => kernel_rfl) ?_
                        repeat (any_goals (go_big_quiet_step (fail)))
                        refine wpQuiet_nil ?_
                        intro wz hwz
                        obtain ⟨⟨dz, oz⟩, rfl⟩ := hwz
                        have hbz := below_regrown wr dz oz
                        generalize grow (redrawn wr dz) oz = wz at *
                        have BZ := keep (hb.out.trans (hbz.mono hb.out.size))
                        clear hbz g0 g1
                        go_wp2_with fail
                        go_roundw
                        case rel => exact ⟨i + 1, by omega, by go_num, BZ⟩
                        case measure => simp [intOf]; omega
                      · have hnb : ((q3 : Int) != (cc : Int)) = true := by simp; omega
                        have e := SE.out cc i (by rw [← hq1, ← hq2, ← hq3]; exact hc)
                        rw [e] at z1
                        have SMR := keep (fun w d os => Calls.regrown_of ((SM.out i hlt (grow (redrawn w d) os)).mono fun _ _ ⟨he, hw⟩ => ⟨he, hw ▸ Below.refl _ _⟩))
                        clear hq1 hq2 hq3 hc e
                        go_wp2_with fail
                        refine wp_region_quiet_below (by as_aux_lemma => kernel_rfl) (by as_aux_lemma => kernel_rfl) ?_
                        repeat (any_goals (go_big_quiet_step (first | (with_reducible exact SMR.out _ _ _))))
                        refine wpQuiet_nil ?_
                        intro wz hwz
                        obtain ⟨⟨dz, oz⟩, rfl⟩ := hwz
                        have hbz := below_regrown wr dz oz
                        generalize grow (redrawn wr dz) oz = wz at *
                        have BZ := keep (hb.out.trans (hbz.mono hb.out.size))
                        clear hbz g0 g1 z1 z2 SMR
                        go_wp2_with fail
                        go_roundw
                        case rel => exact ⟨i + 1, by omega, by go_num, BZ⟩
                        case measure => simp [intOf]; omega
                    · obtain rfl : i = k := by omega
                      have B18 := keep (B17.out.trans (hb.out.mono B17.out.size))
                      go_wp2_with fail
                      go_ret
                      exact ⟨rfl, B18.out⟩
              · have tW : Int.tmod (W : Int) 2 = 0 := by rw [Int.tmod_eq_emod_of_nonneg (by omega)]; omega
                have tH : Int.tmod (H : Int) 2 = 1 := by rw [Int.tmod_eq_emod_of_nonneg (by omega)]; omega
                have t3 : IntKind.i64.wrap 0 = 0 := by decide
                have t4 : IntKind.i64.wrap 1 = 1 := by decide
                have SNO := keep (fun a b q k w => SN.out (.inr ev2) a b q k w)
                clear SN SS BL
                go_region_law (first
                  | (go_simp
                     go_at_call 8
                     refine (zb10At a2 n2 c2 1 8 _ (xaft HBB.out (Below.drew (Below.refl _ _))) (by omega) (by omega) (by omega)).mono ?_
                     rintro e w' ⟨⟨t, ht, rfl⟩, hw⟩
                     have hw := hw.symm
                     subst hw
                     have wt := w1b t ht
                     clear ht)
                  | (go_simp
                     go_at_call 23
                     refine (SNO.out _ _ _ _ _).mono ?_
                     rintro e w15 ⟨rfl, hb⟩
                     have BQ := keep ((Below.drew (Below.refl w14.heap.size w14)).trans hb)
                     clear hb))
                all_goals
                  have G16 := keep (G15.out.after BQ.out)
                  have B17 := keep (B16.out.trans (BQ.out.mono B16.out.size))
                  have FO2 := keep (FO.out.after BQ.out)
                  have FF10 := keep (FF9.out.after BQ.out)
                  clear cg DG G15 B16 FO FF9 FM5 BQ SNO w1b wt HBB HB2
                  have cg := G16.out.cells
                  have hne : ((k : Int) != (k : Int)) = false := by simp
                  go_wp2_with fail
                  clear cg hne
                  go_loopw [181] (fun s wr => ∃ i : Nat, i ≤ k ∧ s = .int .i64 i ∧ Kept (Below w15.heap.size w15 wr)) (fun s _ => k - (intOf s).toNat)
                  case atStart => exact ⟨0, Nat.zero_le _, rfl, keep (Below.refl _ _)⟩
                  case round =>
                    obtain ⟨i, hi, rfl, hb⟩ := hrel
                    by_cases hlt : i < k
                    · have hlt' : (i : Int) < (k : Int) := by omega
                      have g0 := cell_regrown ((G16.out.after hb.out).cells 0)
                      have g1 := cell_regrown ((G16.out.after hb.out).cells 1)
                      have z1 := cell_regrown ((FO2.out.after hb.out).2 i hlt)
                      have z2 := cell_regrown ((FF10.out.after hb.out).2 i hlt)
                      obtain ⟨q1, hq1⟩ : ∃ q1 : Nat, q1 = i % W := ⟨_, rfl⟩
                      obtain ⟨q2, hq2⟩ : ∃ q2 : Nat, q2 = i / W := ⟨_, rfl⟩
                      obtain ⟨q3, hq3⟩ : ∃ q3 : Nat, q3 = (q1 + q2) % 2 := ⟨_, rfl⟩
                      have b1 : q1 < 10 := by rw [hq1]; have := Nat.mod_lt i (show 0 < W by omega); omega
                      have b2 : q2 ≤ i := by rw [hq2]; exact Nat.div_le_self _ _
                      have W0 : ¬ (W : Int) = 0 := by omega
                      have r1 : Int.tmod (i : Int) (W : Int) = (q1 : Int) := by rw [Int.tmod_eq_emod_of_nonneg (by omega), hq1]; rfl
                      have r2 : Int.tdiv (i : Int) (W : Int) = (q2 : Int) := by rw [hq2]; rfl
                      have r3 : Int.tmod ((q1 : Int) + (q2 : Int)) 2 = (q3 : Int) := by
                        rw [show (q1 : Int) + (q2 : Int) = ((q1 + q2 : Nat) : Int) by omega, Int.tmod_eq_emod_of_nonneg (by omega), hq3]; rfl
                      have x1 : IntKind.i64.wrap (q1 : Int) = (q1 : Int) := IntWalk.i64_in _ ⟨by omega, by omega⟩
                      have x2 : IntKind.i64.wrap (q2 : Int) = (q2 : Int) := IntWalk.i64_in _ ⟨by omega, by omega⟩
                      have x3 : IntKind.i64.wrap ((q1 : Int) + (q2 : Int)) = (q1 : Int) + (q2 : Int) := IntWalk.i64_in _ ⟨by omega, by omega⟩
                      have x4 : IntKind.i64.wrap (q3 : Int) = (q3 : Int) := IntWalk.i64_in _ ⟨by omega, by omega⟩
                      by_cases hc : q3 = cc
                      · have hnb : ((q3 : Int) != (cc : Int)) = false := by rw [hc]; simp
                        clear hq1 hq2 hq3 hc z1 z2
                        go_wp2_with fail
                        refine wp_region_quiet_below (by as_aux_lemma => kernel_rfl) (by as_aux_lemma => kernel_rfl) ?_
                        repeat (any_goals (go_big_quiet_step (fail)))
                        refine wpQuiet_nil ?_
                        intro wz hwz
                        obtain ⟨⟨dz, oz⟩, rfl⟩ := hwz
                        have hbz := below_regrown wr dz oz
                        generalize grow (redrawn wr dz) oz = wz at *
                        have BZ := keep (hb.out.trans (hbz.mono hb.out.size))
                        clear hbz g0 g1
                        go_wp2_with fail
                        go_roundw
                        case rel => exact ⟨i + 1, by omega, by go_num, BZ⟩
                        case measure => simp [intOf]; omega
                      · have hnb : ((q3 : Int) != (cc : Int)) = true := by simp; omega
                        have e := SE.out cc i (by rw [← hq1, ← hq2, ← hq3]; exact hc)
                        rw [e] at z1
                        have SMR := keep (fun w d os => Calls.regrown_of ((SM.out i hlt (grow (redrawn w d) os)).mono fun _ _ ⟨he, hw⟩ => ⟨he, hw ▸ Below.refl _ _⟩))
                        clear hq1 hq2 hq3 hc e
                        go_wp2_with fail
                        refine wp_region_quiet_below (by as_aux_lemma => kernel_rfl) (by as_aux_lemma => kernel_rfl) ?_
                        repeat (any_goals (go_big_quiet_step (first | (with_reducible exact SMR.out _ _ _))))
                        refine wpQuiet_nil ?_
                        intro wz hwz
                        obtain ⟨⟨dz, oz⟩, rfl⟩ := hwz
                        have hbz := below_regrown wr dz oz
                        generalize grow (redrawn wr dz) oz = wz at *
                        have BZ := keep (hb.out.trans (hbz.mono hb.out.size))
                        clear hbz g0 g1 z1 z2 SMR
                        go_wp2_with fail
                        go_roundw
                        case rel => exact ⟨i + 1, by omega, by go_num, BZ⟩
                        case measure => simp [intOf]; omega
                    · obtain rfl : i = k := by omega
                      have B18 := keep (B17.out.trans (hb.out.mono B17.out.size))
                      go_wp2_with fail
                      go_ret
                      exact ⟨rfl, B18.out⟩
end Go.Proofs.Ytmlocjcfcmifdaa
