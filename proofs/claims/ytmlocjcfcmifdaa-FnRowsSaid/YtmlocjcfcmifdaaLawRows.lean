/- The law FnRows by its walk: equations of rows and of rings are solved, nearly, and behind a sweep of rows the last row is. No condition but that the bytes can be read. -/
import Derived.Test.YtmlocjcfcmifdaaXn
namespace Go.Proofs.Ytmlocjcfcmifdaa
open Go.RowKit Go.Sort Ieee
set_option linter.unusedSimpArgs false
set_option linter.unusedVariables false

set_option maxHeartbeats 16000000 in
set_option maxRecDepth 100000 in
theorem lawRows_any (a1 a2 : Option Addr) (n1 c1 n2 c2 : Nat) (w : World) (hb1 : Bytes w a1 n1) (hb2 : Bytes w a2 n2) :
    Calls Try.prog 3 #[.slice a1 n1 c1, .slice a2 n2 c2] w fun e w' => e = .returned (.bool true) ∧ Below w.heap.size w w' := by
  have LO := keep (fun w => zb10Long a1 a2 n1 c1 n2 c2 w)
  cases hl : (decide (1048576 < n1) || decide (1048576 < n2))
  case true =>
    rw [hl] at LO
    clear hl hb1 hb2
    go_enter Try.func3, Try.ntmps3
    go_wp2_with fail
    refine (LO.out _).mono ?_
    rintro e w' ⟨rfl, rfl⟩
    go_wp2_with fail
    go_ret
    exact ⟨rfl, by go_grown⟩
  case false =>
    rw [hl] at LO
    have HB1 := keep hb1
    have HB2 := keep hb2
    clear hl hb1 hb2
    go_enter Try.func3, Try.ntmps3
    go_wp2_with fail
    refine (LO.out _).mono ?_
    rintro e w' ⟨rfl, hw⟩
    have hw := hw.symm
    subst hw
    clear LO
    go_wp2_with fail
    refine (zb10At a1 n1 c1 0 8 _ HB1.out (by omega) (by omega) (by omega)).mono ?_
    rintro e w' ⟨⟨r, hr, rfl⟩, hw⟩
    have hw := hw.symm
    subst hw
    obtain ⟨N, hN⟩ : ∃ N : Nat, N = r + 3 := ⟨_, rfl⟩
    have eN : 3 + (r : Int) = (N : Int) := by omega
    have N3 : 3 ≤ N := by omega
    have N10 : N ≤ 10 := by omega
    clear hr hN
    go_wp2_with fail
    clear eN
    refine (B10Whole_ok N (by omega) (by omega) a2 n2 c2 _ HB2.out).mono ?_
    rintro e w1 ⟨f6, h6, g6, k6, hf6, rfl, hg6, hc6, hb⟩
    have F6 := keep hf6
    have C6 := keep hc6
    have B1 := keep hb
    clear hf6 hc6 hb
    have E1 := Has.made w1 28 #[]
    have E2 := Has.made (w1.alloc (.cells #[] 28)) 28 #[]
    have E3 := Has.made ((w1.alloc (.cells #[] 28)).alloc (.cells #[] 28)) 28 #[]
    have b1 := w1.size_alloc (.cells #[] 28)
    have b2 := (w1.alloc (.cells #[] 28)).size_alloc (.cells #[] 28)
    rw [b1] at E2
    rw [b2, b1] at E3
    have T0 : Kept (Three (((w1.alloc (.cells #[] 28)).alloc (.cells #[] 28)).alloc (.cells #[] 28)) w1.heap.size (.slice (some ⟨w1.heap.size, 0, none⟩) 0 0) 0 (fun _ => 0) (.slice (some ⟨w1.heap.size + 1, 0, none⟩) 0 0) 0 (fun _ => 0) (.slice (some ⟨w1.heap.size + 1 + 1, 0, none⟩) 0 0) 0 (fun _ => 0)) := keep {
      a := ⟨rfl, .inr ⟨w1.heap.size, 0, #[], rfl, Nat.le_refl _, (E1.beside _).beside _, Nat.le_refl _, by simp [maxLen], rfl, rfl⟩⟩
      b := ⟨rfl, .inr ⟨w1.heap.size + 1, 0, #[], rfl, by omega, E2.beside _, Nat.le_refl _, by simp [maxLen], rfl, rfl⟩⟩
      c := ⟨rfl, .inr ⟨w1.heap.size + 1 + 1, 0, #[], rfl, by omega, E3, Nat.le_refl _, by simp [maxLen], rfl, rfl⟩⟩
      ab := by right; simp [Value.ownBlock]
      ba := by right; simp [Value.ownBlock]
      ac := by right; simp [Value.ownBlock]; omega
      ca := by right; simp [Value.ownBlock]; omega
      bc := by right; simp [Value.ownBlock]
      cb := by right; simp [Value.ownBlock] }
    have L0 := keep ((((Below.refl w1.heap.size w1).alloc (Nat.le_refl _) (.cells #[] 28)).alloc (by simp) (.cells #[] 28)).alloc (by simp; omega) (.cells #[] 28))
    clear E1 E2 E3 b1 b2
    go_wp2_with fail
    go_loopw [10, 7, 8, 9] (fun s va vb vc wr => ∃ (j : Nat) (A B C : Option Addr) (ca cb cc : Nat) (l m : Nat → Int) (fa fb fc : Nat → Nat), j ≤ N ∧ s = .int .i64 j ∧ va = .slice A j ca ∧ vb = .slice B j cb ∧ vc = .slice C j cc ∧ Kept (Three wr w1.heap.size (.slice A j ca) j fa (.slice B j cb) j fb (.slice C j cc) j fc) ∧ Kept (∀ i, i < j → fa i = iw (l i) ∧ fb i = iw (m i) ∧ fc i = iw (f6 i)) ∧ Kept (SmI l j 1) ∧ Kept (∀ i, i < j → 3 ≤ m i ∧ m i ≤ 5) ∧ Kept (Below w1.heap.size w1 wr)) (fun s _ _ _ _ => N - (intOf s).toNat)
    case atStart => exact ⟨0, _, _, _, _, _, _, fun _ => 0, fun _ => 0, _, _, _, Nat.zero_le _, rfl, rfl, rfl, rfl, T0, keep (fun i hi => by omega), keep (fun i hi => by omega), keep (fun i hi => by omega), L0⟩
    case round =>
      clear T0 L0
      obtain ⟨j, A, B, C, ca, cb, cc, l, m, fa, fb, fc, hj, rfl, rfl, rfl, rfl, hT, hF, hl, hm, hb⟩ := hrel
      by_cases hlt : j < N
      · have hlt' : (j : Int) < (N : Int) := by omega
        have HB3 := keep ((xaft HB1.out B1.out).later hb.out (fun b o e hn => by
          obtain ⟨b', o', e', hl, _⟩ := (xaft HB1.out B1.out) 0 hn
          rw [e] at e'
          injection e' with e'
          injection e' with e'
          omega))
        go_wp2_with fail
        refine (zb10At a1 n1 c1 j 3 _ HB3.out (by omega) (by omega) (by omega)).mono ?_
        rintro e w' ⟨⟨r1, hr1, rfl⟩, hw⟩
        have hw := hw.symm
        subst hw
        have w8 : IntKind.i64.wrap ((r1 : Int) - 1) = (r1 : Int) - 1 := IntWalk.i64_in _ ⟨by omega, by omega⟩
        go_wp2_with (at_builtin; go_loud (refine wpList_append_word rfl _ _ rfl w1.heap.size (.slice A j ca) j fa wr.heap.size (iw ((r1 : Int) - 1)) rfl (hT.out.alloc _).a rfl ((zhas_one wr (.float .f32 (iw ((r1 : Int) - 1))) 28).cells 0) (by omega) ?cb ?_))
        case cb =>
          have := hb.out.size
          simp only [World.size_alloc]; omega
        intro A2 ca2 w2 hown hgrow hor
        have T2 := keep ((hT.out.alloc (.cells #[.float .f32 (iw ((r1 : Int) - 1))] 28)).set hown hgrow (hor.imp id (fun e => e.trans (by simp only [World.size_alloc])))).rot
        have b2 := keep ((hb.out.alloc hb.out.size (.cells #[.float .f32 (iw ((r1 : Int) - 1))] 28)).trans (grown_below (hT.out.alloc (.cells #[.float .f32 (iw ((r1 : Int) - 1))] 28)).a hgrow (by have := hb.out.size; simp only [World.size_alloc]; omega)))
        clear hown hgrow hor hT hb HB3 w8
        have HB3 := keep ((xaft HB1.out B1.out).later b2.out (fun b o e hn => by
          obtain ⟨b', o', e', hl, _⟩ := (xaft HB1.out B1.out) 0 hn
          rw [e] at e'
          injection e' with e'
          injection e' with e'
          omega))
        have Z := zb10At a1 n1 c1 (j + 3) 3 _ HB3.out (by omega) (by omega) (by omega)
        rw [show ((j + 3 : Nat) : Int) = (j : Int) + 3 by omega] at Z
        have Z := keep Z
        have w3 : IntKind.i64.wrap ((j : Int) + 3) = (j : Int) + 3 := IntWalk.i64_in _ ⟨by omega, by omega⟩
        go_wp2_with fail
        refine Z.out.mono ?_
        rintro e w' ⟨⟨r2, hr2, rfl⟩, hw⟩
        have hw := hw.symm
        subst hw
        clear Z w3
        have w8 : IntKind.i64.wrap (3 + (r2 : Int)) = 3 + (r2 : Int) := IntWalk.i64_in _ ⟨by omega, by omega⟩
        go_wp2_with (at_builtin; go_loud (refine wpList_append_word rfl _ _ rfl w1.heap.size (.slice B j cb) j fb w2.heap.size (iw (3 + (r2 : Int))) rfl (T2.out.alloc _).a rfl ((zhas_one w2 (.float .f32 (iw (3 + (r2 : Int)))) 28).cells 0) (by omega) ?cb ?_))
        case cb =>
          have := b2.out.size
          simp only [World.size_alloc]; omega
        intro B2 cb2 w4 hown hgrow hor
        have T4 := keep ((T2.out.alloc (.cells #[.float .f32 (iw (3 + (r2 : Int)))] 28)).set hown hgrow (hor.imp id (fun e => e.trans (by simp only [World.size_alloc])))).rot
        have b4 := keep ((b2.out.alloc b2.out.size (.cells #[.float .f32 (iw (3 + (r2 : Int)))] 28)).trans (grown_below (T2.out.alloc (.cells #[.float .f32 (iw (3 + (r2 : Int)))] 28)).a hgrow (by have := b2.out.size; simp only [World.size_alloc]; omega)))
        clear hown hgrow hor T2 b2 HB3 w8
        have z6 := (b4.out.cell (p := ⟨g6, j, none⟩) C6.out.1).trans (C6.out.2 j hlt)
        go_wp2_with (at_builtin; go_loud (refine wpList_append_word rfl _ _ rfl w1.heap.size (.slice C j cc) j fc w4.heap.size (iw (f6 j)) rfl (T4.out.alloc _).a rfl ((zhas_one w4 (.float .f32 (iw (f6 j))) 28).cells 0) (by omega) ?cb ?_))
        case cb =>
          have := b4.out.size
          simp only [World.size_alloc]; omega
        intro C2 cc2 w5 hown hgrow hor
        have T5 := keep ((T4.out.alloc (.cells #[.float .f32 (iw (f6 j))] 28)).set hown hgrow (hor.imp id (fun e => e.trans (by simp only [World.size_alloc])))).rot
        have b5 := keep ((b4.out.alloc b4.out.size (.cells #[.float .f32 (iw (f6 j))] 28)).trans (grown_below (T4.out.alloc (.cells #[.float .f32 (iw (f6 j))] 28)).a hgrow (by have := b4.out.size; simp only [World.size_alloc]; omega)))
        clear hown hgrow hor T4 b4 z6
        go_wp2_with fail
        go_roundw
        case rel => exact ⟨j + 1, A2, B2, C2, ca2, cb2, cc2, fun i => if i = j then (r1 : Int) - 1 else l i, fun i => if i = j then 3 + (r2 : Int) else m i, _, _, _, by omega, by go_num, rfl, rfl, rfl, T5, keep (fun i hi => by
            dsimp only
            unfold updW
            by_cases e : i = j
            · rw [if_pos e, if_pos e, if_pos e, if_pos e, if_pos e, e]; exact ⟨rfl, rfl, rfl⟩
            · rw [if_neg e, if_neg e, if_neg e, if_neg e, if_neg e]; exact hF.out i (by omega)), keep (fun i hi => by
            dsimp only
            by_cases e : i = j
            · rw [if_pos e]; omega
            · rw [if_neg e]; exact hl.out i (by omega)), keep (fun i hi => by
            dsimp only
            by_cases e : i = j
            · rw [if_pos e]; omega
            · rw [if_neg e]; exact hm.out i (by omega)), b5⟩
        case measure => simp [intOf]; omega
      · obtain rfl : j = N := by omega
        obtain ⟨gA, rfl, lA⟩ := own_form' hT.out.a (by omega)
        obtain ⟨gB, rfl, lB⟩ := own_form' hT.out.b (by omega)
        obtain ⟨gC, rfl, lC⟩ := own_form' hT.out.c (by omega)
        have FA := keep ((own_fw hT.out.a).congr (fun i hi => (hF.out i hi).1))
        have FB := keep ((own_fw hT.out.b).congr (fun i hi => (hF.out i hi).2.1))
        have FC := keep ((own_fw hT.out.c).congr (fun i hi => (hF.out i hi).2.2))
        obtain ⟨t, mm, s, rr, cx, d, z, x, R1, p, q, t1, t2, t3, t4, t5, f, z2, y, R2, KT⟩ := rows_any (by omega) l m f6 hl.out hm.out F6.out
        have R1 := keep R1
        have R2 := keep R2
        have KT := keep KT
        have B2 := keep (B1.out.trans (hb.out.mono B1.out.size))
        clear hT hF hl hm hb C6 B1
        have SR := keep (fun w h1 h2 h3 => SolveRow_ok j (by omega) (by omega) R1.out gA gB gA gC ca cb ca cc w h1 h2 h1 h3)
        go_wp2_with fail
        with_reducible refine (SR.out wr FA.out FB.out FC.out).mono ?_
        rintro e w2 ⟨gx, cx, rfl, lx, hx, cwx, hb⟩
        have FX := keep (cwx.fw hx)
        have FA2 := keep (FA.out.after hb)
        have FB2 := keep (FB.out.after hb)
        have FC2 := keep (FC.out.after hb)
        have B3 := keep (B2.out.trans (hb.mono B2.out.size))
        clear hx cwx hb FA FB FC B2 SR R1
        go_wp2_with fail
        with_reducible refine (SolveRing_W j (by omega) (by omega) R2.out gC cc w2 FC2.out).mono ?_
        rintro e w3 ⟨gy, cy, rfl, ly, hy, cwy, hb⟩
        have FY := keep (cwy.fw hy)
        have FA3 := keep (FA2.out.after hb)
        have FB3 := keep (FB2.out.after hb)
        have FC3 := keep (FC2.out.after hb)
        have FX3 := keep (FX.out.after hb)
        have B4 := keep (B3.out.trans (hb.mono B3.out.size))
        clear hy cwy hb FA2 FB2 FC2 FX B3 R2
        go_wp2_with fail
        go_loopw [15] (fun s wr => ∃ (k mm : Nat), k ≤ j ∧ s = .int .i64 k ∧ wr = w3.drewN mm) (fun s _ => j - (intOf s).toNat)
        case atStart => exact ⟨0, 0, Nat.zero_le _, rfl, rfl⟩
        case round =>
          obtain ⟨k, mq, hk, rfl, rfl⟩ := hrel
          by_cases hlt : k < j
          · have hlt' : (k : Int) < (j : Int) := by omega
            obtain ⟨M, X, s0, L, P1, q1, s1, P2, q2, s2, Y, t, Yp, t1, Yn, t2, R, G1, G2, K⟩ := KT.out k hlt
            have DX := FX3.out
            have DA := FA3.out
            have DB := FB3.out
            have DC := FC3.out
            have DY := FY.out
            have j0 : ¬ (j : Int) = 0 := by omega
            have rm1 : Int.tmod ((k : Int) + (j : Int) - 1) (j : Int) = (pv j k : Int) := by
              rw [show (k : Int) + (j : Int) - 1 = ((k + j - 1 : Nat) : Int) by omega, Int.tmod_eq_emod_of_nonneg (by omega)]; rfl
            have rm2 : Int.tmod ((k : Int) + 1) (j : Int) = (nx j k : Int) := by
              rw [show (k : Int) + 1 = ((k + 1 : Nat) : Int) by omega, Int.tmod_eq_emod_of_nonneg (by omega)]; rfl
            have pl : pv j k < j := pv_lt (by omega)
            have nl : nx j k < j := nx_lt (by omega)
            have y0 := DY.2 k hlt
            have y1 := DY.2 _ pl
            have y2 := DY.2 _ nl
            have d1 := fun w => zconv32 _ _ K.cM w
            have d2 := fun w => zconv32 _ _ K.cX w
            have d3 := fun w => zconv32 _ _ K.cY w
            have d4 := fun w => zconv32 _ _ K.cp w
            have d5 := fun w => zconv32 _ _ K.cn w
            have d6 := fun w => zconv32 _ _ K.cR w
            have d7 := fun w => zconv32 _ _ K.cL w
            have f0 := zrun K.f0
            have f1 := zrun K.ft
            have f2 := zrun K.fp
            have f3 := zrun K.fn
            have gp1 := keep (fun w => b10Gap_ok s2 R G1 K.h1 w)
            have gp2 := keep (fun w => b10Gap_ok t2 R G2 K.h2 w)
            have o1 : (FloatKind.f64.format.order G1 4576918229304087675 == some .gt) = false := K.o1
            have o2 : (FloatKind.f64.format.order G2 4576918229304087675 == some .gt) = false := K.o2
            have z1 := DB.2 k hlt
            have z2 := DX.2 k hlt
            have z3 := DA.2 k hlt
            have z4 := DC.2 k hlt
            have w1 : IntKind.i64.wrap ((k : Int) + (j : Int)) = (k : Int) + (j : Int) := IntWalk.i64_in _ ⟨by omega, by omega⟩
            have w2 : IntKind.i64.wrap ((k : Int) + (j : Int) - 1) = (k : Int) + (j : Int) - 1 := IntWalk.i64_in _ ⟨by omega, by omega⟩
            have w4 : IntKind.i64.wrap ((k : Int) + 1) = (k : Int) + 1 := IntWalk.i64_in _ ⟨by omega, by omega⟩
            have w5 : IntKind.i64.wrap ((pv j k : Nat) : Int) = (pv j k : Int) := IntWalk.i64_in _ ⟨by omega, by omega⟩
            have w6 : IntKind.i64.wrap ((nx j k : Nat) : Int) = (nx j k : Int) := IntWalk.i64_in _ ⟨by omega, by omega⟩
            have w7 : IntKind.i64.wrap ((j : Int) - 1) = (j : Int) - 1 := IntWalk.i64_in _ ⟨by omega, by omega⟩
            have pl' : (pv j k : Int) < (j : Int) := by omega
            have nl' : (nx j k : Int) < (j : Int) := by omega
            generalize pv j k = pk at *
            generalize nx j k = nk at *
            have KK := keep K
            have DX := keep DX
            clear K DA DB DC DY pl nl
            by_cases h0 : 0 < k
            · obtain ⟨k1, ek⟩ : ∃ k1, k1 = k - 1 := ⟨_, rfl⟩
              have a0 : ((0 : Int) < (k : Int)) := by omega
              have a1 : (k : Int) - 1 = (k1 : Int) := by omega
              have a2 : (k1 : Int) < (j : Int) := by omega
              have x1 := DX.out.2 k1 (by omega)
              have cc1 := KK.out.c1 h0
              rw [← ek] at cc1
              have g1 := fun w => zconv32 _ _ cc1 w
              have g2 := zrun (KK.out.g1 h0)
              have g3 := zrun (KK.out.a1 h0)
              have w8 : IntKind.i64.wrap (k1 : Int) = (k1 : Int) := IntWalk.i64_in _ ⟨by omega, by omega⟩
              clear cc1 ek h0
              by_cases h1 : k + 1 < j
              · have b0 : (k : Int) < (j : Int) - 1 := by omega
                have b1 : (k : Int) + 1 < (j : Int) := by omega
                have b2 : (0 : Int) ≤ (k : Int) + 1 := by omega
                have x2 := DX.out.2 (k + 1) h1
                have g4 := fun w => zconv32 _ _ (KK.out.c2 h1) w
                have g5 := zrun (KK.out.g2 h1)
                have g6 := zrun (KK.out.a2 h1)
                clear h1
                go_wp2_with fail
                go_quiet (fail)
                go_wp2_with fail
                go_quiet (fail)
                go_wp2_with fail
                go_quiet (fail)
                go_wp2_with fail
                go_quiet (fail)
                go_wp2_with fail
                refine (gp1.out _).mono ?_
                rintro e w' ⟨rfl, rfl⟩
                go_wp2_with fail
                refine (gp2.out _).mono ?_
                rintro e w' ⟨rfl, rfl⟩
                go_wp2_with fail
                go_roundw
                case rel => exact ⟨k + 1, _, by omega, by go_num, rfl⟩
                case measure => simp [intOf]; omega
              · have b0 : ¬ ((k : Int) < (j : Int) - 1) := by omega
                have e2 := KK.out.e2 h1
                clear h1
                rw [e2] at gp1
                clear e2
                go_wp2_with fail
                go_quiet (fail)
                go_wp2_with fail
                go_quiet (fail)
                go_wp2_with fail
                go_quiet (fail)
                go_wp2_with fail
                refine (gp1.out _).mono ?_
                rintro e w' ⟨rfl, rfl⟩
                go_wp2_with fail
                refine (gp2.out _).mono ?_
                rintro e w' ⟨rfl, rfl⟩
                go_wp2_with fail
                go_roundw
                case rel => exact ⟨k + 1, _, by omega, by go_num, rfl⟩
                case measure => simp [intOf]; omega
            · have a0 : ¬ ((0 : Int) < (k : Int)) := by omega
              have e1 := KK.out.e1 h0
              have h1 : k + 1 < j := by omega
              have b0 : (k : Int) < (j : Int) - 1 := by omega
              have b1 : (k : Int) + 1 < (j : Int) := by omega
              have b2 : (0 : Int) ≤ (k : Int) + 1 := by omega
              have x2 := DX.out.2 (k + 1) h1
              have g4 := fun w => zconv32 _ _ (KK.out.c2 h1) w
              have g5 := zrun (KK.out.g2 h1)
              have g6 := KK.out.a2 h1
              rw [e1] at g6
              have g6 := zrun g6
              clear h1 h0 e1
              go_wp2_with fail
              go_quiet (fail)
              go_wp2_with fail
              go_quiet (fail)
              go_wp2_with fail
              go_quiet (fail)
              go_wp2_with fail
              refine (gp1.out _).mono ?_
              rintro e w' ⟨rfl, rfl⟩
              go_wp2_with fail
              refine (gp2.out _).mono ?_
              rintro e w' ⟨rfl, rfl⟩
              go_wp2_with fail
              go_roundw
              case rel => exact ⟨k + 1, _, by omega, by go_num, rfl⟩
              case measure => simp [intOf]; omega
          · obtain rfl : k = j := by omega
            go_wp2_with fail
            have B5 := keep (B4.out.drewN_of mq)
            clear KT FA3 FB3 FC3 FX3 FY B4 lA lB lC lx ly hlt
            generalize w3.drewN mq = w4 at *
            refine (B10Grid_ok a2 n2 c2 _ (xaft HB2.out B5.out)).mono ?_
            rintro e w5 ⟨W, H, hs, rfl, hb⟩
            have hS : Sd W H := ⟨⟨hs.1.1, by omega⟩, hs.2.1, by omega⟩
            have SL := sd_le W H hS
            have HS := keep hs
            have B6 := keep (B5.out.trans (hb.mono B5.out.size))
            have G6 := keep (Has.made w5 36 #[.int .i64 W, .int .i64 H])
            have B7 := keep (B6.out.alloc B6.out.size (.cells #[.int .i64 W, .int .i64 H] 36))
            have DF := keep (fun w hb => B10Field_ok W H hS a1 n1 c1 w hb)
            have DV := keep (fun w hb => B10Field_ok W H hS a2 n2 c2 w hb)
            have SWP := keep (fun {v ch S m c O T R X} M SW g1 g2 c1 c2 w hv hc => @SweepRows_ok W H hS v ch S m c M O T R X SW g1 g2 c1 c2 w hv hc)
            have LAP := keep (fun v A L g c w hv => LaplaceOf_ok W H hS v A L g c w hv)
            have WMN := keep (fun {a S m o} M g c w hv => @WithoutMean_ok W H hS a S m o M g c w hv)
            have TOLD := keep (fun f v hf hv => swept_any hs.1 hs.2 f v hf hv)
            have m1 : IntKind.i64.wrap ((H : Int) - 1) = (H : Int) - 1 := IntWalk.i64_in _ ⟨by omega, by omega⟩
            have hw1 : W * (H - 1) ≤ W * H := Nat.mul_le_mul_left _ (by omega)
            have m2 : (W : Int) * ((H : Int) - 1) = ((W * (H - 1) : Nat) : Int) := by
              rw [Int.natCast_mul, show ((H - 1 : Nat) : Int) = (H : Int) - 1 by omega]
            have m3 : IntKind.i64.wrap ((W * (H - 1) : Nat) : Int) = ((W * (H - 1) : Nat) : Int) := IntWalk.i64_in _ ⟨by omega, by omega⟩
            have m4 : (W : Int) * (H : Int) = ((W * H : Nat) : Int) := (Int.natCast_mul ..).symm
            have m5 : IntKind.i64.wrap ((W * H : Nat) : Int) = ((W * H : Nat) : Int) := IntWalk.i64_in _ ⟨by omega, by omega⟩
            have M2 := keep m2
            have M4 := keep m4
            clear hs hb hS B5 m2 m4
            generalize W * (H - 1) = lo at *
            generalize W * H = n at *
            have cg := G6.out.cells
            unfold gV at *
            go_wp2_with fail
            refine (DF.out _ ((xaft HB1.out B6.out).xalloc _)).mono ?_
            rintro e w6 ⟨f, gf, kf, hf, rfl, lf, Ff, hb⟩
            have G7 := keep (G6.out.after hb)
            have B8 := keep (B7.out.trans (hb.mono B7.out.size))
            have HF := keep hf
            have FF := keep Ff
            clear hf Ff hb DF B6 B7 G6 cg lf
            have cg := G7.out.cells
            go_wp2_with fail
            refine (DV.out _ (xaft HB2.out B8.out)).mono ?_
            rintro e w7 ⟨v, gv, kv, hv, rfl, lv, Fv, hb⟩
            have G8 := keep (G7.out.after hb)
            have B9 := keep (B8.out.trans (hb.mono B8.out.size))
            have FF2 := keep (FF.out.after hb)
            have FV := keep Fv
            obtain ⟨S, mm, c, O, T, R, X, A, MW, SW, LA, TL⟩ := TOLD.out f v HF.out hv
            have TL := keep TL
            clear hv Fv hb DV B8 G7 FF HF cg lv TOLD HB1 HB2
            have SWP := keep (SWP.out MW SW)
            have LAP := keep (LAP.out _ _ LA)
            have WMN := keep (WMN.out MW)
            have cg := G8.out.cells
            go_wp2_with fail
            refine (SWP.out gv gf _ _ _ FV.out FF2.out).mono ?_
            rintro e w8 ⟨gs, ds, cs, rfl, ls, hs, cws, hb⟩
            have G9 := keep (G8.out.after hb)
            have B10 := keep (B9.out.trans (hb.mono B9.out.size))
            have FF3 := keep (FF2.out.after hb)
            have FS := keep (cws.fw hs)
            clear hs cws hb SWP B9 G8 FF2 FV cg ls MW SW LA
            have cg := G9.out.cells
            go_wp2_with fail
            refine (LAP.out gs _ _ FS.out).mono ?_
            rintro e w9 ⟨gl, cl, rfl, ll, hl, cwl, hb⟩
            have G10 := keep (G9.out.after hb)
            have B11 := keep (B10.out.trans (hb.mono B10.out.size))
            have FF4 := keep (FF3.out.after hb)
            have FL := keep (cwl.fw hl)
            clear hl cwl hb LAP B10 G9 FF3 FS cg ll
            have cg := G10.out.cells
            go_wp2_with fail
            refine (WMN.out gf _ _ FF4.out).mono ?_
            rintro e w10 ⟨gm, dm, cm, rfl, lm, hm, cwm, hb⟩
            have G11 := keep (G10.out.after hb)
            have B12 := keep (B11.out.trans (hb.mono B11.out.size))
            have FL2 := keep (FL.out.after hb)
            have FM := keep (cwm.fw hm)
            clear hm cwm hb WMN B11 G10 FF4 FL cg lm
            have cg := G11.out.cells
            have m2 := M2.out
            go_wp2_with fail
            clear cg m1 m2 m3 M2
            go_loopw [27] (fun s wr => ∃ i : Nat, lo ≤ i ∧ i ≤ n ∧ s = .int .i64 i ∧ Kept (Below w10.heap.size w10 wr)) (fun s _ => n - (intOf s).toNat)
            case atStart => exact ⟨lo, Nat.le_refl _, hw1, rfl, keep (Below.refl _ _)⟩
            case round =>
              obtain ⟨i, hlo, hi, rfl, hb⟩ := hrel
              have cg := (G11.out.after hb.out).cells
              have m4 := M4.out
              by_cases hlt : i < n
              · have hlt' : (i : Int) < (n : Int) := by omega
                obtain ⟨C, D, G, K⟩ := TL.out i hlo hlt
                have z1 := cell_regrown ((FL2.out.after hb.out).2 i hlt)
                have z2 := cell_regrown ((FM.out.after hb.out).2 i hlt)
                have d1 := fun w => zconv32 _ _ K.ca w
                have d2 := fun w => zconv32 _ _ K.cb w
                have GP := keep (fun w d os => Calls.regrown_of ((b10Gap_ok C D G K.h (grow (redrawn w d) os)).mono fun _ _ ⟨he, hw⟩ => ⟨he, hw ▸ Below.refl _ _⟩))
                have o1 : (FloatKind.f64.format.order G 4576918229304087675 == some .gt) = false := K.o
                clear K
                go_wp2_with fail
                clear cg
                refine wp_region_quiet_below (by as_aux_lemma => kernel_rfl) (by as_aux_lemma => kernel_rfl) ?_
                repeat (any_goals (go_big_quiet_step (first | (with_reducible exact GP.out _ _ _))))
                refine wpQuiet_nil ?_
                intro wz hwz
                obtain ⟨⟨dz, oz⟩, rfl⟩ := hwz
                have hbz := below_regrown wr dz oz
                generalize grow (redrawn wr dz) oz = wz at *
                have BZ := keep (hb.out.trans (hbz.mono hb.out.size))
                clear hbz z1 z2 d1 d2 GP
                go_wp2_with fail
                go_roundw
                case rel => exact ⟨i + 1, by omega, by omega, by go_num, BZ⟩
                case measure => simp [intOf]; omega
              · obtain rfl : i = n := by omega
                go_wp2_with fail
                go_ret
                exact ⟨rfl, B12.out.trans (hb.out.mono B12.out.size)⟩
end Go.Proofs.Ytmlocjcfcmifdaa
