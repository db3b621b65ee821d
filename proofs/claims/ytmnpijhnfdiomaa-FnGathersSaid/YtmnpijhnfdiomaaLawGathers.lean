/- The law FnGathers by its walk: the charge times what is gathered is the product of the field and what the particle leaves, a field that is the same everywhere is gathered unchanged, and twice a field is gathered twice. No condition but that the bytes can be read. -/
import Derived.Test.YtmnpijhnfdiomaaMf
import Derived.Test.YtmnpijhnfdiomaaMg
import Derived.Test.YtmnpijhnfdiomaaHh
import Derived.Test.YtmnpijhnfdiomaaLawShares
namespace Go.Proofs.Ytmnpijhnfdiomaa
open Go.RowKit Go.Sort Ieee
set_option linter.unusedSimpArgs false

theorem own_oneG {w : World} {b : Nat} {p : GP} (h : Has w b 50 #[.complex .f32 (wd single 3 p.x) (wd single 3 p.y), .complex .f32 (wd single 3 p.u) (wd single 3 p.v), .float .f32 (wd single 1 p.q), .float .f32 (wd single 2 p.m)]) : w.ownsRow 0 50 4 (.slice (some ⟨b, 0, none⟩) 1 1) [p].length (psCells ([p].map GP.pd)) :=
  ⟨rfl, .inr ⟨b, 1, _, rfl, Nat.zero_le _, h, Nat.le_refl _, by simp [maxLen], rfl, rfl⟩⟩
theorem gatF_le (W H : Nat) (x y : Int) (fs : List Int) (M : Nat) (hM : Small fs M) : (gatF (cornersL W H x y) fs).natAbs ≤ 256 * M := by
  have h := gatF_bound fs M hM (cornersL W H x y) (fun c hc => (cornersL_share W H x y c hc).2)
  have e : (cornersL W H x y).length = 4 := rfl
  rw [e] at h
  omega
theorem half_ord : FloatKind.f32.format.order 1056964608 1056964608 = some .eq := by decide +kernel
theorem minus2_ord : FloatKind.f32.format.order 3221225472 3221225472 = some .eq := by decide +kernel

set_option maxHeartbeats 8000000 in
set_option maxRecDepth 100000 in
theorem lawGathers_any (a1 a2 : Option Addr) (n1 c1 n2 c2 : Nat) (w : World) (hb1 : Bytes w a1 n1) (hb2 : Bytes w a2 n2) :
    Calls Try.prog 7 #[.slice a1 n1 c1, .slice a2 n2 c2] w fun e w' => e = .returned (.bool true) ∧ Below w.heap.size w w' := by
  have LO := keep (fun w => r8Long_any a1 a2 n1 c1 n2 c2 w)
  cases hl : (decide (48 < n1) || decide (48 < n2))
  case true =>
    rw [hl] at LO
    clear hl hb1 hb2
    go_enter Try.func7, Try.ntmps7
    go_wp2_with fail
    refine (LO.out _).mono ?_
    rintro e w' ⟨rfl, rfl⟩
    go_wp2_with fail
    go_ret
    exact ⟨rfl, Below.refl _ _⟩
  case false =>
    rw [hl] at LO
    have GR := keep (R8Grid_ok a1 n1 c1 w hb1)
    have HB2 := keep hb2
    clear hl hb1 hb2
    go_enter Try.func7, Try.ntmps7
    go_wp2_with fail
    refine (LO.out _).mono ?_
    rintro e w' ⟨rfl, rfl⟩
    go_wp2_with fail
    refine GR.out.mono ?_
    rintro e w1 ⟨W, H, ⟨hs, hH6⟩, rfl, hb⟩
    have HS := keep hs
    have GV : gridV W H = .agg #[.int .i64 W, .int .i64 H] := rfl
    have P1 := keep (Has.made w1 25 #[.int .i64 W, .int .i64 H])
    have B1 := keep (hb.alloc hb.size (.cells #[.int .i64 W, .int .i64 H] 25))
    have RP := keep (R8Particle_ok a2 n2 c2 _ (HB2.out.aft B1.out))
    rw [GV]
    clear hb GV LO GR hs
    go_wp2_with fail
    refine RP.out.mono ?_
    rintro e w2 ⟨p, hp, rfl, hb⟩
    have PO := keep hp
    have q1 := keep (P1.out.after hb)
    have Q2 := keep (Has.made w2 50 #[.complex .f32 (wd single 3 p.x) (wd single 3 p.y), .complex .f32 (wd single 3 p.u) (wd single 3 p.v), .float .f32 (wd single 1 p.q), .float .f32 (wd single 2 p.m)])
    have P2 := keep (q1.out.beside (.cells #[.complex .f32 (wd single 3 p.x) (wd single 3 p.y), .complex .f32 (wd single 3 p.u) (wd single 3 p.v), .float .f32 (wd single 1 p.q), .float .f32 (wd single 2 p.m)] 50))
    have bb := B1.out.trans (hb.mono B1.out.size)
    have B2 := keep (bb.alloc bb.size (.cells #[.complex .f32 (wd single 3 p.x) (wd single 3 p.y), .complex .f32 (wd single 3 p.u) (wd single 3 p.v), .float .f32 (wd single 1 p.q), .float .f32 (wd single 2 p.m)] 50))
    have cg := P2.out.cells
    have RF := keep (R8Field_ok W H HS.out a2 n2 c2 _ (HB2.out.aft B2.out))
    unfold GP.agg
    unfold gridV at RF
    clear hb bb RP hp q1 P1 B1
    go_wp2_with fail
    refine RF.out.mono ?_
    rintro e w3 ⟨fs, gF, kF, hl, hsm, rfl, hf, hb⟩
    have F3 := keep hf
    have p3 := P2.out.after hb
    have q3 := Q2.out.after hb
    clear cg
    have cg := p3.cells
    have cq := q3.cells
    have P3 := keep p3
    have Q3 := keep q3
    have B3 := keep (B2.out.trans (hb.mono B2.out.size))
    have SL := size_le W H HS.out
    have GA' := fun g c w hh => GatherOne_ok W H HS.out p.x p.y (GP.place PO.out) 2 (by omega) g c fs hl 8 hsm (by omega) w hh
    have GB' := fun g c w hh => GatherOne_ok W H HS.out p.x p.y (GP.place PO.out) 2 (by omega) g c (dbl fs) (by rw [dbl_length]; exact hl) 16 (Small.dbl hsm) (by omega) w hh
    rw [dbl_law W H HS.out p.x p.y fs hl] at GB'
    have DP' := fun b w hh => DepositOf_ok W H HS.out 0 (.slice (some ⟨b, 0, none⟩) 1 1) [p] w hh (fun q hq => by rw [List.mem_singleton.1 hq]; exact PO.out) (by show 1 ≤ 6; omega)
    have ds := depAll_small W H [p] (fun q hq => by rw [List.mem_singleton.1 hq]; exact PO.out)
    have FD' := fun g1 g2 c1 c2 w h1 h2 => FieldDot_ok W H HS.out 2 7 (by omega) (by omega) g1 g2 c1 c2 fs (depAll W H [p]) hl (depAll_length W H [p]) 8 1024 hsm ds (by omega) (by omega) (by omega) w h1 h2
    rw [dot_law W H HS.out p fs hl] at FD'
    have EV' := fun w => EvenField_ok W H HS.out 1056964608 3221225472 rfl w
    have GT' := fun g1 g2 w h1 h2 => GatherTwo_ok W H HS.out p.x p.y (GP.place PO.out) 1 (by omega) g1 g2 (List.replicate (W * H) 1) (List.replicate (W * H) (-4)) (by rw [List.length_replicate]) (by rw [List.length_replicate]) 4 (Small.even _ _ _ (by decide)) (Small.even _ _ _ (by decide)) (by omega) w h1 h2
    simp only [Nat.reduceAdd] at GT' GA' GB' FD'
    rw [even_half W H HS.out, even_minus2 W H HS.out] at GT'
    have SC' := fun g c w hh => ScaleField_ok W H HS.out 2 (by omega) g c fs hl 8 hsm (by omega) w hh
    have AD' := fun g c w hh => AddFields_ok W H HS.out 2 (by omega) g c fs hl 8 hsm (by omega) w hh
    have RE' := fun g1 g2 c1 c2 w h1 h2 => r8EqualF_ok 2 (by omega) g1 g2 (dbl fs) 16 (Small.dbl hsm) (by omega) (by rw [dbl_length, hl]; omega) c1 c2 w h1 h2
    rw [dbl_length, hl] at RE'
    have gb := gatF_le W H p.x p.y fs 8 hsm
    have hq4 : p.q.natAbs ≤ 4 := by
      have := PO.out.2.2.2.2.1
      omega
    obtain ⟨r, hra, hrb⟩ := charge_dot p.q _ hq4 (Nat.le_trans gb (by omega))
    have hr1 := keep (frun hra)
    have hr2 := keep hrb
    have ta := fmul_pos' (k := 8) (l := 0) (a := gatF (cornersL W H p.x p.y) fs) (b := 2) (by omega) (by omega) (by omega) (by omega) (by omega) (by omega)
    rw [← two_word2, show 0 + 8 = 8 from rfl] at ta
    have t1 := keep (frun ta)
    have t2 := keep (order_wd_self 8 (2 * gatF (cornersL W H p.x p.y) fs) (by omega) (by omega))
    rw [hl]
    clear hra hrb ta hf hb p3 q3 P2 Q2 B2 hl hsm ds gb hq4
    generalize depAll W H [p] = LF at *
    generalize gatF (cornersL W H p.x p.y) fs = G at *
    generalize W * H = n at *
    have GA := keep GA'
    have GB := keep GB'
    have DP := keep DP'
    have FD := keep FD'
    have EV := keep EV'
    have GT := keep GT'
    have SC := keep SC'
    have AD := keep AD'
    have RE := keep RE'
    clear GA' GB' DP' FD' EV' GT' SC' AD' RE'
    unfold gridV placeV at *
    go_wp2_with fail
    refine (GA.out _ _ _ F3.out).mono ?_
    rintro e w4 ⟨rfl, hb⟩
    have F4 := keep (F3.out.after hb)
    have p4 := P3.out.after hb
    have q4 := Q3.out.after hb
    clear cg cq
    have cg := p4.cells
    have cq := q4.cells
    have P4 := keep p4
    have Q4 := keep q4
    have B4 := keep (B3.out.trans (hb.mono B3.out.size))
    clear hb p4 q4 P3 Q3 B3 F3 GA
    go_wp2_with fail
    refine (DP.out _ _ (own_oneG (Has.made w4 50 _))).mono ?_
    rintro e w5 ⟨g5, rfl, hf, hb⟩
    have F5 := keep ((F4.out.beside (.cells #[.complex .f32 (wd single 3 p.x) (wd single 3 p.y), .complex .f32 (wd single 3 p.u) (wd single 3 p.v), .float .f32 (wd single 1 p.q), .float .f32 (wd single 2 p.m)] 50)).after hb)
    have p5 := (P4.out.beside (.cells #[.complex .f32 (wd single 3 p.x) (wd single 3 p.y), .complex .f32 (wd single 3 p.u) (wd single 3 p.v), .float .f32 (wd single 1 p.q), .float .f32 (wd single 2 p.m)] 50)).after hb
    have q5 := (Q4.out.beside (.cells #[.complex .f32 (wd single 3 p.x) (wd single 3 p.y), .complex .f32 (wd single 3 p.u) (wd single 3 p.v), .float .f32 (wd single 1 p.q), .float .f32 (wd single 2 p.m)] 50)).after hb
    clear cg cq
    have cg := p5.cells
    have cq := q5.cells
    have P5 := keep p5
    have Q5 := keep q5
    have B5 := keep ((B4.out.alloc B4.out.size (.cells #[.complex .f32 (wd single 3 p.x) (wd single 3 p.y), .complex .f32 (wd single 3 p.u) (wd single 3 p.v), .float .f32 (wd single 1 p.q), .float .f32 (wd single 2 p.m)] 50)).trans (hb.mono (by have := B4.out.size; simp only [World.size_alloc]; omega)))
    have L5 := keep hf.fld
    clear hb p5 q5 P4 Q4 B4 hf DP F4
    go_wp2_with fail
    refine (FD.out _ _ _ _ _ F5.out L5.out).mono ?_
    rintro e w6 ⟨rfl, hb⟩
    have F6 := keep (F5.out.after hb)
    have p6 := P5.out.after hb
    have q6 := Q5.out.after hb
    clear cg cq
    have cg := p6.cells
    have cq := q6.cells
    have P6 := keep p6
    have Q6 := keep q6
    have B6 := keep (B5.out.trans (hb.mono B5.out.size))
    clear hb p6 q6 P5 Q5 B5 FD L5 F5
    go_wp2_with fail
    refine (EV.out _).mono ?_
    rintro e w7 ⟨gx, gy, rfl, hx, hy, hb⟩
    have F7 := keep (F6.out.after hb)
    have p7 := P6.out.after hb
    have q7 := Q6.out.after hb
    clear cg cq
    have cg := p7.cells
    have cq := q7.cells
    have P7 := keep p7
    have Q7 := keep q7
    have B7 := keep (B6.out.trans (hb.mono B6.out.size))
    have X7 := keep (even_fld half_w hx)
    have Y7 := keep (even_fld minus2_w hy)
    clear hb p7 q7 P6 Q6 B6 hx hy EV F6
    go_wp2_with fail
    refine (GT.out _ _ _ X7.out Y7.out).mono ?_
    rintro e w8 ⟨rfl, hb⟩
    have F8 := keep (F7.out.after hb)
    have p8 := P7.out.after hb
    have q8 := Q7.out.after hb
    clear cg cq
    have cg := p8.cells
    have cq := q8.cells
    have P8 := keep p8
    have Q8 := keep q8
    have B8 := keep (B7.out.trans (hb.mono B7.out.size))
    clear hb p8 q8 P7 Q7 B7 GT X7 Y7 F7
    go_wp2_with fail
    refine (SC.out _ _ _ F8.out).mono ?_
    rintro e w9 ⟨g9, d9, rfl, hf, hb⟩
    have F9 := keep (F8.out.after hb)
    have p9 := P8.out.after hb
    have q9 := Q8.out.after hb
    clear cg cq
    have cg := p9.cells
    have cq := q9.cells
    have P9 := keep p9
    have Q9 := keep q9
    have B9 := keep (B8.out.trans (hb.mono B8.out.size))
    have D9 := keep hf
    clear hb p9 q9 P8 Q8 B8 hf SC F8
    go_wp2_with fail
    refine (AD.out _ _ _ F9.out).mono ?_
    rintro e w10 ⟨g10, d10, rfl, hf, hb⟩
    have F10 := keep (F9.out.after hb)
    have D10 := keep (D9.out.after hb)
    have p10 := P9.out.after hb
    have q10 := Q9.out.after hb
    clear cg cq
    have cg := p10.cells
    have cq := q10.cells
    have P10 := keep p10
    have Q10 := keep q10
    have B10 := keep (B9.out.trans (hb.mono B9.out.size))
    have S10 := keep hf
    clear hb p10 q10 P9 Q9 B9 hf AD F9 D9
    go_wp2_with fail
    refine (GB.out _ _ _ D10.out).mono ?_
    rintro e w11 ⟨rfl, hb⟩
    have D11 := keep (D10.out.after hb)
    have S11 := keep (S10.out.after hb)
    have p11 := P10.out.after hb
    have q11 := Q10.out.after hb
    clear cg cq
    have cg := p11.cells
    have cq := q11.cells
    have P11 := keep p11
    have Q11 := keep q11
    have B11 := keep (B10.out.trans (hb.mono B10.out.size))
    have ho1 := half_ord
    have ho2 := minus2_ord
    have er1 := hr1.out
    have er2 := hr2.out
    have et1 := t1.out
    have et2 := t2.out
    clear hb p11 q11 P10 Q10 B10 GB F10 D10 S10
    go_wp2_with fail
    refine (RE.out _ _ _ _ _ D11.out S11.out).mono ?_
    rintro e w12 ⟨rfl, hb⟩
    have B12 := keep (B11.out.trans (hb.mono B11.out.size))
    clear hb
    go_wp2_with fail
    go_ret
    exact ⟨rfl, B12.out⟩
end Go.Proofs.Ytmnpijhnfdiomaa
