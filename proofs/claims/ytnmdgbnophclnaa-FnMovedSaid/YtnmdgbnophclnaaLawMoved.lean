/- The law FnMoved by its walk: a cloud that is moved by whole cells has its charges moved, parts that are split are the cloud when they are merged, and two streams stand still as a whole. No condition but that the bytes can be read. -/
import Derived.Test.YtnmdgbnophclnaaPl
namespace Go.Proofs.Ytnmdgbnophclnaa
open Go.RowKit Go.Sort Ieee
set_option linter.unusedSimpArgs false
set_option linter.unusedVariables false

theorem row_cell {w : World} {B n : Nat} {A : Option Addr} {c : Nat} {fs : List Int} (h : w.ownsRow B 27 1 (.slice A n c) n (fRow 8 fs)) (hl : fs.length = n) (hn : 0 < n) : ∃ g, A = some ⟨g, 0, none⟩ ∧ g < w.heap.size ∧ ∀ i (hi : i < fs.length), w.cell? ⟨g, i, none⟩ = some (.float .f32 (wd single 8 fs[i])) := by
  rcases h.2 with ⟨_, h0⟩ | ⟨g, cap, cur, e, _⟩
  · omega
  · injection e with e1
    subst e1
    refine ⟨g, rfl, (h.lt g rfl).2, fun i hi => ?_⟩
    have e := h.cells (g := g) rfl i _ (fRow_at 8 fs i hi)
    rw [Addr.add_lit, Nat.zero_add] at e
    exact e
theorem isL_word (p : QP) (hp : p.ok) (h : isL p = true) : FloatKind.f32.format.order (wd single 3 p.x) 1077936128 = some .lt := by
  rcases isL_cases p hp with ⟨_, o⟩ | ⟨o, _⟩
  · rw [three_word] at o; exact o
  · rw [h] at o; cases o
theorem isR_word (p : QP) (hp : p.ok) (h : (!isL p) = true) : FloatKind.f32.format.order (wd single 3 p.x) 1077936128 = some .gt ∨ FloatKind.f32.format.order (wd single 3 p.x) 1077936128 = some .eq := by
  rcases isL_cases p hp with ⟨o, _⟩ | ⟨_, o⟩
  · rw [o] at h; cases h
  · rw [three_word] at o; exact o

set_option maxHeartbeats 16000000 in
set_option maxRecDepth 100000 in
theorem lawMoved_any (a1 a2 : Option Addr) (n1 c1 n2 c2 : Nat) (w : World) (hb1 : Bytes w a1 n1) (hb2 : Bytes w a2 n2) :
    Calls Try.prog 4 #[.slice a1 n1 c1, .slice a2 n2 c2] w fun e w' => e = .returned (.bool true) ∧ Below w.heap.size w w' := by
  have LO := keep (fun w => b10Long_q a1 a2 n1 c1 n2 c2 w)
  cases hl : (decide (1048576 < n1) || decide (1048576 < n2))
  case true =>
    rw [hl] at LO
    clear hl hb1 hb2
    go_enter Try.func4, Try.ntmps4
    go_wp2_with fail
    refine (LO.out _).mono ?_
    rintro e w' ⟨rfl, rfl⟩
    go_wp2_with fail
    go_ret
    exact ⟨rfl, Below.refl _ _⟩
  case false =>
    rw [hl] at LO
    have GC := keep (B10Cloud_ok a1 n1 c1 w hb1)
    have HB2 := keep hb2
    have T0 := keep (fun w hb => b10At_ok a2 n2 c2 0 9 w hb (by omega) (by omega) (by omega))
    have T1 := keep (fun w hb => b10At_ok a2 n2 c2 1 9 w hb (by omega) (by omega) (by omega))
    have T2 : Kept (∀ w, Bytes w a2 n2 → Calls Try.prog 17 #[.slice a2 n2 c2, .int .i64 2, .int .i64 8] w fun e w' => (∃ r : Nat, r < 8 ∧ e = .returned (.int .i64 r)) ∧ w' = w) := keep (fun w hb => b10At_ok a2 n2 c2 2 8 w hb (by omega) (by omega) (by omega))
    clear hl hb1 hb2
    go_enter Try.func4, Try.ntmps4
    go_wp2_with fail
    refine (LO.out _).mono ?_
    rintro e wz ⟨rfl, hwz⟩
    have hwz := hwz.symm
    subst hwz
    go_wp2_with fail
    refine GC.out.mono ?_
    rintro e w1 ⟨W, H, ps, v, mg, bk, ⟨hs, _⟩, hpl, hok, hmg, hbk, rfl, hown, hb⟩
    have fm : fin .f32 (wd single 2 mg) = true := fin_wd 2 mg (by omega) (by omega)
    have fb : fin .f32 (wd single 3 bk) = true := fin_wd 3 bk (by omega) (by omega)
    generalize wd single 2 mg = m at *
    have HC : CloudOk W H ps m (wd single 3 bk) := ⟨hs, hpl, hok, fm, fb⟩
    have MV := keep (fun X Y hX hY B w h => MoveCloud_ok W H ps m _ HC X Y hX hY B v w h)
    have CA := keep (fun B w h => CloudCharge_ok W H ps m bk hbk HC B v w h)
    have CB := fun X Y B v' w h => CloudCharge_ok W H (moveQ W H X Y ps) m bk hbk (cloud_move HC X Y) B v' w h
    simp only [charge_move W H hs] at CB
    have CB := keep CB
    have FL := chargeQ_length W H ps bk
    have FS := charge_small W H ps bk hok hpl hbk
    have SS := keep (fun X Y hX hY g w hh => SpecShift_ok W H hs X Y hX hY g (chargeQ W H ps bk) FL w hh)
    have OL := keep (fun X Y => shiftF_length W H X Y (chargeQ W H ps bk))
    have OS := keep (fun X Y => FS.shift W H X Y)
    have SP := fun B w h => SplitCloud_ok W H ps m _ HC B v w h
    rw [three_word] at SP
    have SP := keep SP
    have MG := keep (fun B1 B2 v1 v2 w h1 h2 => MergeClouds_ok W H (ps.filter isL) (ps.filter (fun p => !isL p)) m _ (cloud_filter HC _) (cloud_filter HC _) (by rw [filter_both]; exact hpl) B1 B2 v1 v2 w h1 h2)
    have TS := keep (fun c hc w => TwoStreams_ok W H hs c hc w)
    have PK : ∀ c, 1 ≤ c ∧ c ≤ 8 → CloudPD W H (tsL W H (2 * c) (2 * c)) 0 (tsB (2 * c) (W * H)) := fun c hc => ⟨hs, by rw [tsL_length]; omega, tsL_ok W H c (2 * c) hs hc (by omega), by decide +kernel, (ts_b c (W * H) hc (size_le W H hs)).2⟩
    have MM := keep (fun c hc B v w h => CloudMomentum_ts W H c 0 _ hc (PK c hc) B v w h)
    have TT := keep (fun c hc B v w h => Temperature_ts W H c 0 _ hc (PK c hc) B v w h)
    have KK := keep (fun c hc B v w h => Kinetic_ts W H c 0 _ hc (PK c hc) B v w h)
    have LB := filter_both ps isL
    have AL := keep (fun p (hp : p ∈ ps.filter isL) => isL_word p (hok p (List.mem_filter.1 hp).1) (List.mem_filter.1 hp).2)
    have AR := keep (fun p (hp : p ∈ ps.filter (fun p => !isL p)) => isR_word p (hok p (List.mem_filter.1 hp).1) (List.mem_filter.1 hp).2)
    have SL := size_le W H hs
    generalize chargeQ W H ps bk = F at *
    generalize wd single 3 bk = b at *
    have LA : ((ps.filter isL) ++ (ps.filter (fun p => !isL p))).length = ps.length := by rw [List.length_append]; exact LB
    generalize ps.filter isL = la at *
    generalize ps.filter (fun p => !isL p) = lb at *
    generalize la ++ lb = lab at *
    generalize W * H = n at *
    clear hmg hbk HC hok fm fb FS PK hs
    have P1 := keep (Has.made w1 29 #[.int .i64 W, .int .i64 H, v, .float .f32 m, .float .f32 b])
    have B1 := keep (hb.alloc hb.size (.cells #[.int .i64 W, .int .i64 H, v, .float .f32 m, .float .f32 b] 29))
    have R1 : Kept (RowQ (w1.alloc (.cells #[.int .i64 W, .int .i64 H, v, .float .f32 m, .float .f32 b] 29)) (w.heap.size + 1) v ps) := keep (hown.alloc _)
    obtain ⟨A, c, rfl, _⟩ := qown_form hown
    clear hown hb GC LO
    unfold cloudV gridV at *
    go_wp2_with fail
    refine (T0.out _ (HB2.out.aft B1.out)).mono ?_
    rintro e wz ⟨⟨r0, h0, rfl⟩, hwz⟩
    have hwz := hwz.symm
    subst hwz
    obtain ⟨X, hX, wr0⟩ : ∃ X : Int, X.natAbs ≤ 4 ∧ IntKind.i64.wrap ((r0 : Int) - 4) = X := ⟨(r0 : Int) - 4, by omega, IntWalk.i64_in _ ⟨by omega, by omega⟩⟩
    go_wp2_with fail
    clear wr0
    refine (T1.out _ (HB2.out.aft B1.out)).mono ?_
    rintro e wz ⟨⟨r1, h1, rfl⟩, hwz⟩
    have hwz := hwz.symm
    subst hwz
    obtain ⟨Y, hY, wr1⟩ : ∃ Y : Int, Y.natAbs ≤ 4 ∧ IntKind.i64.wrap ((r1 : Int) - 4) = Y := ⟨(r1 : Int) - 4, by omega, IntWalk.i64_in _ ⟨by omega, by omega⟩⟩
    have cg := P1.out.cells
    clear T0 T1
    go_wp2_with fail
    clear wr1 h0 h1
    refine (MV.out X Y hX hY _ _ R1.out).mono ?_
    rintro e w2 ⟨v2, rfl, hr, hb⟩
    have ML := moveQ_length W H X Y ps
    obtain ⟨A2, c2, rfl, _⟩ := qown_form hr
    rw [ML]
    have hr2 : RowQ w2 (w1.heap.size + 1) (.slice A2 ps.length c2) (moveQ W H X Y ps) := by rw [World.size_alloc] at hr; rw [← ML]; exact hr
    have P2 := keep ((P1.out.after hb).beside (.cells #[.int .i64 W, .int .i64 H, .slice A2 ps.length c2, .float .f32 m, .float .f32 b] 29))
    have M2 := keep (Has.made w2 29 #[.int .i64 W, .int .i64 H, .slice A2 ps.length c2, .float .f32 m, .float .f32 b])
    have B2 := keep ((B1.out.trans (hb.mono B1.out.size)).alloc (B1.out.trans (hb.mono B1.out.size)).size (.cells #[.int .i64 W, .int .i64 H, .slice A2 ps.length c2, .float .f32 m, .float .f32 b] 29))
    have R2 : Kept (RowQ (w2.alloc (.cells #[.int .i64 W, .int .i64 H, .slice A2 ps.length c2, .float .f32 m, .float .f32 b] 29)) (w.heap.size + 1) (.slice A ps.length c) ps) := keep ((owns_below R1.out hb).alloc _)
    have Q2 : Kept (RowQ (w2.alloc (.cells #[.int .i64 W, .int .i64 H, .slice A2 ps.length c2, .float .f32 m, .float .f32 b] 29)) (w1.heap.size + 1) (.slice A2 ps.length c2) (moveQ W H X Y ps)) := keep (hr2.alloc _)
    clear hr hr2 hb MV P1 B1 R1 cg
    have cg := P2.out.cells
    go_wp2_with fail
    refine (CA.out _ _ R2.out).mono ?_
    rintro e w3 ⟨ga, rfl, hh, hb⟩
    have P3 := keep (P2.out.after hb)
    have M3 := keep (M2.out.after hb)
    have B3 := keep (B2.out.trans (hb.mono B2.out.size))
    have R3 := keep (owns_below R2.out hb)
    have Q3 := keep (owns_below Q2.out hb)
    have F3 := keep hh
    clear hh hb CA P2 M2 B2 R2 Q2 cg
    have cg := M3.out.cells
    go_wp2_with fail
    refine (CB.out X Y _ _ _ Q3.out).mono ?_
    rintro e w4 ⟨gb, rfl, hh, hb⟩
    have P4 := keep (P3.out.after hb)
    have B4 := keep (B3.out.trans (hb.mono B3.out.size))
    have R4 := keep (owns_below R3.out hb)
    have F4 := keep (F3.out.after hb)
    have G4 := keep hh
    clear hh hb CB P3 M3 B3 R3 Q3 F3 cg ML
    have cg := P4.out.cells
    go_wp2_with fail
    refine (SS.out X Y hX hY _ _ F4.out).mono ?_
    rintro e w5 ⟨v5, rfl, hr, hb⟩
    have OLX := OL.out X Y
    have OSX := keep (OS.out X Y)
    generalize shiftF W H X Y F = fs at *
    obtain ⟨A5, c5, rfl⟩ := own_slice hr
    obtain ⟨g5, rfl, hg5, hc5⟩ := row_cell hr OLX (by omega)
    have HC5 := keep hc5
    have P5 := keep (P4.out.after hb)
    have B5 := keep (B4.out.trans (hb.mono B4.out.size))
    have R5 := keep (owns_below R4.out hb)
    have G5 := keep (G4.out.after hb)
    have hne : ((n : Int) != (n : Int)) = false := by simp
    have z5 := B5.out.size
    clear hr hb hc5 SS P4 B4 R4 F4 G4 cg OL OS hX hY
    go_wp2_with fail
    clear hne
    go_loopw [92] (fun s wr => ∃ (i q : Nat), i ≤ n ∧ s = .int .i64 i ∧ wr = w5.drewN q) (fun s _ => n - (intOf s).toNat)
    case atStart => exact ⟨0, 0, Nat.zero_le _, rfl, rfl⟩
    case round =>
      obtain ⟨i, q, hi, rfl, rfl⟩ := hrel
      by_cases hlt : i < n
      · have z1 := (G5.out.cells i).trans (fCells_at 8 fs i (by omega))
        have z2 := HC5.out i (by omega)
        have b1 := OSX.out fs[i] (List.getElem_mem _)
        generalize fs[i]'(by omega) = x at *
        have o1 := order_wd_self 8 x (by omega) (by omega)
        have hlt' : (i : Int) < (n : Int) := by omega
        clear b1
        go_wp2_with fail
        go_quiet (fail)
        go_wp2_with fail
        go_roundw
        case rel => exact ⟨i + 1, _, by omega, by go_num, rfl⟩
        case measure => simp [intOf]; omega
      · obtain rfl : i = n := by omega
        have P6 := keep (P5.out.draws q)
        have B6 := keep (Below.drewN_of B5.out q)
        have R6 := keep (owns_below R5.out (Below.drewN _ _ q))
        clear P5 B5 R5 G5 HC5 OSX hlt hi hg5
        generalize w5.drewN q = w6 at *
        have cg := P6.out.cells
        go_wp2_with fail
        refine (SP.out _ _ R6.out).mono ?_
        rintro e w7 ⟨vl, vr, rfl, hrl, hrr, hb⟩
        obtain ⟨A7, c7, rfl, _⟩ := qown_form hrl
        obtain ⟨A8, c8, rfl, _⟩ := qown_form hrr
        have P7 := keep (((P6.out.after hb).beside (.cells #[.int .i64 W, .int .i64 H, .slice A7 la.length c7, .float .f32 m, .float .f32 b] 29)).beside (.cells #[.int .i64 W, .int .i64 H, .slice A8 lb.length c8, .float .f32 m, .float .f32 b] 29))
        have L7 := keep ((Has.made w7 29 #[.int .i64 W, .int .i64 H, .slice A7 la.length c7, .float .f32 m, .float .f32 b]).beside (.cells #[.int .i64 W, .int .i64 H, .slice A8 lb.length c8, .float .f32 m, .float .f32 b] 29))
        have K7 := Has.made (w7.alloc (.cells #[.int .i64 W, .int .i64 H, .slice A7 la.length c7, .float .f32 m, .float .f32 b] 29)) 29 #[.int .i64 W, .int .i64 H, .slice A8 lb.length c8, .float .f32 m, .float .f32 b]
        rw [World.size_alloc] at K7
        have K7 := keep K7
        have hB := B6.out.trans (hb.mono B6.out.size)
        have B7 := keep ((hB.alloc hB.size (.cells #[.int .i64 W, .int .i64 H, .slice A7 la.length c7, .float .f32 m, .float .f32 b] 29)).alloc (by rw [World.size_alloc]; have := hB.size; omega) (.cells #[.int .i64 W, .int .i64 H, .slice A8 lb.length c8, .float .f32 m, .float .f32 b] 29))
        have R7 := keep (((owns_below R6.out hb).alloc (.cells #[.int .i64 W, .int .i64 H, .slice A7 la.length c7, .float .f32 m, .float .f32 b] 29)).alloc (.cells #[.int .i64 W, .int .i64 H, .slice A8 lb.length c8, .float .f32 m, .float .f32 b] 29))
        have U7 := keep ((hrl.alloc (.cells #[.int .i64 W, .int .i64 H, .slice A7 la.length c7, .float .f32 m, .float .f32 b] 29)).alloc (.cells #[.int .i64 W, .int .i64 H, .slice A8 lb.length c8, .float .f32 m, .float .f32 b] 29))
        have V7 := keep ((hrr.alloc (.cells #[.int .i64 W, .int .i64 H, .slice A7 la.length c7, .float .f32 m, .float .f32 b] 29)).alloc (.cells #[.int .i64 W, .int .i64 H, .slice A8 lb.length c8, .float .f32 m, .float .f32 b] 29))
        clear hrl hrr hb hB SP P6 B6 R6 cg
        have cl := L7.out.cells
        have ck := K7.out.cells
        go_wp2_with fail
        clear cl ck
        refine (MG.out _ _ _ _ _ U7.out V7.out).mono ?_
        rintro e w8 ⟨v8, rfl, hr, hb⟩
        obtain ⟨A9, c9, rfl, _⟩ := qown_form hr
        rw [LA]
        have P8 := keep ((P7.out.after hb).beside (.cells #[.int .i64 W, .int .i64 H, .slice A9 ps.length c9, .float .f32 m, .float .f32 b] 29))
        have L8 := keep ((L7.out.after hb).beside (.cells #[.int .i64 W, .int .i64 H, .slice A9 ps.length c9, .float .f32 m, .float .f32 b] 29))
        have K8 := keep ((K7.out.after hb).beside (.cells #[.int .i64 W, .int .i64 H, .slice A9 ps.length c9, .float .f32 m, .float .f32 b] 29))
        have J8 := keep (Has.made w8 29 #[.int .i64 W, .int .i64 H, .slice A9 ps.length c9, .float .f32 m, .float .f32 b])
        have hB := B7.out.trans (hb.mono B7.out.size)
        have B8 := keep (hB.alloc hB.size (.cells #[.int .i64 W, .int .i64 H, .slice A9 ps.length c9, .float .f32 m, .float .f32 b] 29))
        have U8 := keep ((owns_below U7.out hb).alloc (.cells #[.int .i64 W, .int .i64 H, .slice A9 ps.length c9, .float .f32 m, .float .f32 b] 29))
        have V8 := keep ((owns_below V7.out hb).alloc (.cells #[.int .i64 W, .int .i64 H, .slice A9 ps.length c9, .float .f32 m, .float .f32 b] 29))
        have cp := P8.out.cells
        have cj := J8.out.cells
        have cl := L8.out.cells
        have hne : ((ps.length : Int) != (ps.length : Int)) = false := by simp
        clear hr hb hB MG P7 L7 K7 B7 R7 U7 V7 LA
        go_wp2_with fail
        clear hne cp cj cl J8
        obtain ⟨A7', c7', he, hA⟩ := qown_form U8.out
        injection he with e1 e2 e3
        subst e1
        subst e3
        have UA := keep hA
        obtain ⟨A8', c8', he, hA⟩ := qown_form V8.out
        injection he with e1 e2 e3
        subst e1
        subst e3
        have VA := keep hA
        clear hA U8 V8
        generalize w8.alloc (.cells #[.int .i64 W, .int .i64 H, .slice A9 ps.length c9, .float .f32 m, .float .f32 b] 29) = w9 at *
        go_loopw [135] (fun s wr => ∃ (i : Nat), i ≤ la.length ∧ s = .int .i64 i ∧ wr = w9) (fun s _ => la.length - (intOf s).toNat)
        case atStart => exact ⟨0, Nat.zero_le _, rfl, rfl⟩
        case round =>
          obtain ⟨i, hi, rfl, hwr⟩ := hrel
          have hwr := hwr.symm
          subst hwr
          have cl := L8.out.cells
          by_cases hlt : i < la.length
          · obtain ⟨g, rfl, hg, d0, d1, d2, d3⟩ := UA.out i hlt
            have o1 := AL.out _ (List.getElem_mem hlt)
            generalize la[i] = p at *
            have hlt' : (i : Int) < (la.length : Int) := by omega
            clear d1 d2 d3
            go_wp2_with fail
            go_roundw
            case rel => exact ⟨i + 1, by omega, by go_num, by trivial⟩
            case measure => simp [intOf]; omega
          · obtain rfl : i = la.length := by omega
            have ck := K8.out.cells
            clear cl
            go_wp2_with fail
            clear ck
            go_loopw [150] (fun s wr => ∃ (i : Nat), i ≤ lb.length ∧ s = .int .i64 i ∧ wr = w9) (fun s _ => lb.length - (intOf s).toNat)
            case atStart => exact ⟨0, Nat.zero_le _, rfl, rfl⟩
            case round =>
              obtain ⟨i, hi, rfl, hwr⟩ := hrel
              have hwr := hwr.symm
              subst hwr
              have ck := K8.out.cells
              by_cases hlt : i < lb.length
              · obtain ⟨g, rfl, hg, d0, d1, d2, d3⟩ := VA.out i hlt
                have o1 := AR.out _ (List.getElem_mem hlt)
                generalize lb[i] = p at *
                have hlt' : (i : Int) < (lb.length : Int) := by omega
                clear d1 d2 d3
                rcases o1 with o1 | o1
                all_goals
                  go_wp2_with fail
                  go_roundw
                  case rel => exact ⟨i + 1, by omega, by go_num, by trivial⟩
                  case measure => simp [intOf]; omega
              · obtain rfl : i = lb.length := by omega
                clear ck UA VA AL AR hlt hi
                go_wp2_with fail
                have lg := P8.out.in_heap
                have k0 := P8.out.cells 0
                have k1 := P8.out.cells 1
                have BZ : Below w9.heap.size w9 w9.drew := Below.drew (Below.refl _ _)
                have BY : Below w9.heap.size w9 (w9.alloc (.cells #[.int .i64 0, .int .i64 0, .slice none 0 0, .float .f32 0, .float .f32 0] 29)).drew := Below.drew ((Below.refl _ _).alloc (Nat.le_refl _) _)
                have TA := keep (T2.out w9.drew (HB2.out.aft (B8.out.trans (BZ.mono B8.out.size))))
                have TB := keep (T2.out (w9.alloc (.cells #[.int .i64 0, .int .i64 0, .slice none 0 0, .float .f32 0, .float .f32 0] 29)).drew (HB2.out.aft (B8.out.trans (BY.mono B8.out.size))))
                have ZB := keep (show Has (w9.alloc (.cells #[.int .i64 0, .int .i64 0, .slice none 0 0, .float .f32 0, .float .f32 0] 29)).drew w9.heap.size 29 cloudZ from Has.made w9 29 cloudZ)
                clear T2 P8 L8 K8
                go_region_held (fun wz => wz.cell? ⟨w1.heap.size, 0, none⟩ = some (.int .i64 W) ∧ wz.cell? ⟨w1.heap.size, 1, none⟩ = some (.int .i64 H) ∧ Below w9.heap.size w9 wz)
                  ((refine (fun hB : Below w9.heap.size w9 _ => ⟨(hB.cell (p := ⟨w1.heap.size, 0, none⟩) lg).trans k0, (hB.cell (p := ⟨w1.heap.size, 1, none⟩) lg).trans k1, hB⟩) ?_; repeat' (first | (with_reducible assumption) | (with_reducible exact Below.refl _ _) | (with_reducible refine Below.drew ?_) | (with_reducible refine Below.alloc ?_ ?_ _) | (with_reducible refine Below.setCell ?_ ?_ _) | (simp; done) | (simp; omega))))
                  (first
                    | ((with_reducible refine TA.out.mono ?_)
                       rintro e wq ⟨⟨r, hr, rfl⟩, hwq⟩
                       subst hwq
                       obtain ⟨cc, hcc, hcw⟩ : ∃ cc : Nat, (1 ≤ cc ∧ cc ≤ 8) ∧ IntKind.i64.wrap (1 + (r : Int)) = (cc : Int) := ⟨1 + r, by omega, by rw [Int.natCast_add]; exact IntWalk.i64_in _ ⟨by omega, by omega⟩⟩)
                    | ((with_reducible refine TB.out.mono ?_)
                       rintro e wq ⟨⟨r, hr, rfl⟩, hwq⟩
                       subst hwq
                       obtain ⟨cc, hcc, hcw⟩ : ∃ cc : Nat, (1 ≤ cc ∧ cc ≤ 8) ∧ IntKind.i64.wrap (1 + (r : Int)) = (cc : Int) := ⟨1 + r, by omega, by rw [Int.natCast_add]; exact IntWalk.i64_in _ ⟨by omega, by omega⟩⟩)
                    | ((with_reducible refine (TS.out cc hcc w9.drew).mono ?_)
                       rintro e w10 ⟨v10, rfl, hr10, hb10⟩
                       obtain ⟨A10, c10, rfl, _⟩ := ts_form hr10
                       have BW := BZ.trans hb10
                       have zw := BW.size
                       have R10 := keep hr10
                       clear hr10)
                    | ((with_reducible refine (TS.out cc hcc (w9.alloc (.cells #[.int .i64 0, .int .i64 0, .slice none 0 0, .float .f32 0, .float .f32 0] 29)).drew).mono ?_)
                       rintro e w10 ⟨v10, rfl, hr10, hb10⟩
                       obtain ⟨A10, c10, rfl, _⟩ := ts_form hr10
                       have BW := BY.trans (hb10.mono BY.size)
                       have zw := BW.size
                       have R10 := keep hr10
                       have Z10 := keep (ZB.out.after hb10)
                       have cz10 := Z10.out.cells
                       have uz10 := Z10.out.free
                       unfold cloudZ at cz10
                       clear hr10))
                all_goals
                  first
                  | (have zz := Z10.out
                     clear zz TA TB ZB lg k0 k1 zw
                     have MC := keep (MM.out cc hcc)
                     have TC := keep (TT.out cc hcc)
                     have KC := keep (KK.out cc hcc)
                     have om1 := (ts_means cc hcc).2.2
                     have hn2 : 2 * cc ≤ 16 := by omega
                     clear MM TT KK TS hcc
                     generalize 2 * cc = nn at *
                     generalize tsB nn i = bb at *
                     have S11 := setCloud_has Z10.out W H (.slice A10 nn c10) 0 bb
                     have R11 := setCloud_own R10.out (show w9.heap.size < (w9.alloc (.cells #[.int .i64 0, .int .i64 0, .slice none 0 0, .float .f32 0, .float .f32 0] 29)).drew.heap.size from by show w9.heap.size < (w9.alloc (.cells #[.int .i64 0, .int .i64 0, .slice none 0 0, .float .f32 0, .float .f32 0] 29)).heap.size; rw [World.size_alloc]; omega) W H (.slice A10 nn c10) 0 bb
                     have B11 := setCloud_below BW (Nat.le_refl _) W H (.slice A10 nn c10) 0 bb
                     unfold setCloud at S11 R11 B11
                     clear BW hb10 Z10 R10 BZ BY cz10 uz10
                     generalize (((((w10.setCell ⟨w9.heap.size, 0, none⟩ (.int .i64 W)).setCell ⟨w9.heap.size, 1, none⟩ (.int .i64 H)).setCell ⟨w9.heap.size, 2, none⟩ (.slice A10 nn c10)).setCell ⟨w9.heap.size, 3, none⟩ (.float .f32 0)).setCell ⟨w9.heap.size, 4, none⟩ (.float .f32 bb)) = w11 at *
                     have BB1 := keep (B8.out.trans (B11.mono B8.out.size))
                     have SS1 := keep S11
                     have RR1 := keep R11
                     have om := frun om1
                     have oo := order_wd_self 3 (nn : Int) (by omega) (by omega)
                     clear S11 R11 B11 om1
                     have cs := SS1.out.cells
                     go_wp2_with fail
                     refine (MC.out _ _ _ RR1.out).mono ?_
                     rintro e w12 ⟨rfl, hb⟩
                     have SS2 := keep (SS1.out.after hb)
                     have RR2 := keep (owns_below RR1.out hb)
                     have BB2 := keep (BB1.out.trans (hb.mono BB1.out.size))
                     clear hb cs SS1 RR1 BB1 MC
                     have cs := SS2.out.cells
                     go_wp2_with fail
                     refine (TC.out _ _ _ RR2.out).mono ?_
                     rintro e w13 ⟨rfl, hb⟩
                     have SS3 := keep (SS2.out.after hb)
                     have RR3 := keep (owns_below RR2.out hb)
                     have BB3 := keep (BB2.out.trans (hb.mono BB2.out.size))
                     clear hb cs SS2 RR2 BB2 TC
                     have cs := SS3.out.cells
                     go_wp2_with fail
                     refine (KC.out _ _ _ RR3.out).mono ?_
                     rintro e w14 ⟨rfl, hb⟩
                     have SS4 := keep (SS3.out.after hb)
                     have BB4 := keep (BB3.out.trans (hb.mono BB3.out.size))
                     clear hb cs SS3 RR3 BB3 KC
                     have cs := SS4.out.cells
                     have ow1 := word_order.1
                     have ow2 := word_order.2
                     go_wp2_with fail
                     go_ret
                     exact ⟨by first | rfl | simp, BB4.out⟩)
                  | (clear TA TB ZB lg k0 k1 zw
                     have MC := keep (MM.out cc hcc)
                     have TC := keep (TT.out cc hcc)
                     have KC := keep (KK.out cc hcc)
                     have om1 := (ts_means cc hcc).2.2
                     have hn2 : 2 * cc ≤ 16 := by omega
                     clear MM TT KK TS hcc
                     generalize 2 * cc = nn at *
                     generalize tsB nn i = bb at *
                     have S11 := Has.made w10 29 #[.int .i64 W, .int .i64 H, .slice A10 nn c10, .float .f32 0, .float .f32 bb]
                     have R11 := R10.out.alloc (.cells #[.int .i64 W, .int .i64 H, .slice A10 nn c10, .float .f32 0, .float .f32 bb] 29)
                     have B11 := BW.alloc BW.size (.cells #[.int .i64 W, .int .i64 H, .slice A10 nn c10, .float .f32 0, .float .f32 bb] 29)
                     clear BW hb10 R10 BZ BY
                     generalize w10.alloc (.cells #[.int .i64 W, .int .i64 H, .slice A10 nn c10, .float .f32 0, .float .f32 bb] 29) = w11 at *
                     have BB1 := keep (B8.out.trans (B11.mono B8.out.size))
                     have SS1 := keep S11
                     have RR1 := keep R11
                     have om := frun om1
                     have oo := order_wd_self 3 (nn : Int) (by omega) (by omega)
                     clear S11 R11 B11 om1
                     have cs := SS1.out.cells
                     go_wp2_with fail
                     refine (MC.out _ _ _ RR1.out).mono ?_
                     rintro e w12 ⟨rfl, hb⟩
                     have SS2 := keep (SS1.out.after hb)
                     have RR2 := keep (owns_below RR1.out hb)
                     have BB2 := keep (BB1.out.trans (hb.mono BB1.out.size))
                     clear hb cs SS1 RR1 BB1 MC
                     have cs := SS2.out.cells
                     go_wp2_with fail
                     refine (TC.out _ _ _ RR2.out).mono ?_
                     rintro e w13 ⟨rfl, hb⟩
                     have SS3 := keep (SS2.out.after hb)
                     have RR3 := keep (owns_below RR2.out hb)
                     have BB3 := keep (BB2.out.trans (hb.mono BB2.out.size))
                     clear hb cs SS2 RR2 BB2 TC
                     have cs := SS3.out.cells
                     go_wp2_with fail
                     refine (KC.out _ _ _ RR3.out).mono ?_
                     rintro e w14 ⟨rfl, hb⟩
                     have SS4 := keep (SS3.out.after hb)
                     have BB4 := keep (BB3.out.trans (hb.mono BB3.out.size))
                     clear hb cs SS3 RR3 BB3 KC
                     have cs := SS4.out.cells
                     have ow1 := word_order.1
                     have ow2 := word_order.2
                     go_wp2_with fail
                     go_ret
                     exact ⟨by first | rfl | simp, BB4.out⟩)

end Go.Proofs.Ytnmdgbnophclnaa
