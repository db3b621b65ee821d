/- The law FnSorted by its walk: a sorted cloud has the same particles, in ascending order of cells, and as they were in each of these; counts and starts are told of all cells. No condition but that the bytes can be read. -/
import Derived.Test.YtnmdgbnophclnaaOm
namespace Go.Proofs.Ytnmdgbnophclnaa
open Go.RowKit Go.Sort Ieee
set_option linter.unusedSimpArgs false
set_option linter.unusedVariables false

set_option maxHeartbeats 16000000 in
set_option maxRecDepth 100000 in
theorem lawSorted_any (a1 a2 : Option Addr) (n1 c1 n2 c2 : Nat) (w : World) (hb1 : Bytes w a1 n1) (hb2 : Bytes w a2 n2) :
    Calls Try.prog 3 #[.slice a1 n1 c1, .slice a2 n2 c2] w fun e w' => e = .returned (.bool true) ∧ Below w.heap.size w w' := by
  have LO := keep (fun w => b10Long_any a1 a2 n1 c1 n2 c2 w)
  cases hl : (decide (1048576 < n1) || decide (1048576 < n2))
  case true =>
    rw [hl] at LO
    clear hl hb1 hb2
    go_enter Try.func3, Try.ntmps3
    go_wp2_with fail
    refine (LO.out _).mono ?_
    rintro e w' ⟨rfl, rfl⟩
    go_wp2_with fail
    go_ret
    exact ⟨rfl, Below.refl _ _⟩
  case false =>
    rw [hl] at LO
    have GC := keep (B10Cloud_ok a1 n1 c1 w hb1)
    clear hl hb1 hb2
    go_enter Try.func3, Try.ntmps3
    go_wp2_with fail
    refine (LO.out _).mono ?_
    rintro e wz ⟨rfl, hwz⟩
    have hwz := hwz.symm
    subst hwz
    go_wp2_with fail
    refine GC.out.mono ?_
    rintro e w1 ⟨W, H, ps, v, mg, bk, ⟨hs, _⟩, hpl, hok, hmg, hbk, rfl, hown, hb⟩
    have hm := num_wd 2 mg (by omega) (by omega)
    have hbn := num_wd 3 bk (by omega) (by omega)
    have fm : fin .f32 (wd single 2 mg) = true := fin_wd 2 mg (by omega) (by omega)
    have fb : fin .f32 (wd single 3 bk) = true := fin_wd 3 bk (by omega) (by omega)
    generalize wd single 2 mg = m at *
    generalize wd single 3 bk = b at *
    clear hmg hbk
    have HC : CloudOk W H ps m b := ⟨hs, hpl, hok, fm, fb⟩
    have OL := orderL_length W H hs ps
    have SLn : (sortQ W H ps).length = ps.length := by unfold sortQ; rw [pickQ_length, OL]
    have HCS : CloudOk W H (sortQ W H ps) m b := cloud_pick HC (by omega) (orderL_in W H hs ps)
    have SZ := size_le W H hs
    have OO := keep (fun w h => OrderOf_ok W H ps m b HC (w1.heap.size) v w h)
    have OO := keep (fun B w h => OrderOf_ok W H ps m b HC B v w h)
    have SC := keep (fun B w h => SortCloud_ok W H ps m b HC B v w h)
    have CS := keep (fun B v w h => CellsOf_ok W H (sortQ W H ps) m b HCS B v w h)
    have CN := keep (fun B w h => CountsOf_ok W H ps m b HC B v w h)
    have ST := keep (fun B w h => StartsOf_ok W H ps m b HC B v w h)
    have PE := keep (fun B g c0 w h hg hc => PermuteCloud_ok W H ps m b HC B v (orderL W H ps) (byKey_perm _ _ _ (keyOf_lt W H hs ps)) g c0 w h hg hc)
    have FU := keep (fun B w h => FullestCell_ok W H ps m b HC B v w h)
    have IC := keep (fun B k hk w h => InCell_ok W H ps m b HC B v k hk w h)
    have SA := keep (fun B1 B2 v1 v2 w h1 h2 => SameCloud_ok W H (sortQ W H ps) m b HCS.parts HCS.len hm hbn B1 B2 v1 v2 w h1 h2)
    have P1 := keep (Has.made w1 29 #[.int .i64 W, .int .i64 H, v, .float .f32 m, .float .f32 b])
    have B1 := keep (hb.alloc hb.size (.cells #[.int .i64 W, .int .i64 H, v, .float .f32 m, .float .f32 b] 29))
    have R1 : Kept (RowQ (w1.alloc (.cells #[.int .i64 W, .int .i64 H, v, .float .f32 m, .float .f32 b] 29)) (w.heap.size + 1) v ps) := keep (hown.alloc _)
    obtain ⟨A, c, rfl, _⟩ := qown_form hown
    have OLk := keep OL
    have SLk := keep SLn
    have HS := keep hs
    clear hown hb GC LO HC HCS hok fm fb hm hbn OL SLn hs
    unfold cloudV at *
    have cg := P1.out.cells
    go_wp2_with fail
    refine (OO.out _ _ R1.out).mono ?_
    rintro e w2 ⟨g2, rfl, ho, hb⟩
    have P2 := keep (P1.out.after hb)
    have R2 := keep (owns_below R1.out hb)
    have B2 := keep (B1.out.trans (hb.mono B1.out.size))
    have O2 := keep ho
    clear hb ho OO P1 R1 B1 cg
    have cg := P2.out.cells
    go_wp2_with fail
    refine (SC.out _ _ R2.out).mono ?_
    rintro e w3 ⟨v3, rfl, hr, hb⟩
    obtain ⟨A3, c3, rfl⟩ := own_slice hr
    unfold RowQ at hr
    rw [SLk.out] at hr ⊢
    have hr2 : RowQ w3 w2.heap.size (.slice A3 ps.length c3) (sortQ W H ps) := by unfold RowQ; rw [SLk.out]; exact hr
    have P3 := keep ((P2.out.after hb).beside (.cells #[.int .i64 W, .int .i64 H, .slice A3 ps.length c3, .float .f32 m, .float .f32 b] 29))
    have S3 := keep (Has.made w3 29 #[.int .i64 W, .int .i64 H, .slice A3 ps.length c3, .float .f32 m, .float .f32 b])
    have B3 := keep ((B2.out.trans (hb.mono B2.out.size)).alloc (B2.out.trans (hb.mono B2.out.size)).size (.cells #[.int .i64 W, .int .i64 H, .slice A3 ps.length c3, .float .f32 m, .float .f32 b] 29))
    have R3 : Kept (RowQ (w3.alloc (.cells #[.int .i64 W, .int .i64 H, .slice A3 ps.length c3, .float .f32 m, .float .f32 b] 29)) (w.heap.size + 1) (.slice A ps.length c) ps) := keep ((owns_below R2.out hb).alloc _)
    have Q3 : Kept (RowQ (w3.alloc (.cells #[.int .i64 W, .int .i64 H, .slice A3 ps.length c3, .float .f32 m, .float .f32 b] 29)) w2.heap.size (.slice A3 ps.length c3) (sortQ W H ps)) := keep (hr2.alloc _)
    have O3 := keep ((O2.out.after hb).beside (.cells #[.int .i64 W, .int .i64 H, .slice A3 ps.length c3, .float .f32 m, .float .f32 b] 29))
    clear hb hr hr2 SC P2 R2 B2 O2 cg
    have cg := S3.out.cells
    go_wp2_with fail
    refine (CS.out _ _ _ Q3.out).mono ?_
    rintro e w4 ⟨v4, rfl, hr, hb⟩
    obtain ⟨A4, c4, rfl⟩ := own_slice hr
    unfold RowN at hr
    rw [List.length_map, SLk.out] at hr ⊢
    have K4 := keep hr
    have P4 := keep (P3.out.after hb)
    have S4 := keep (S3.out.after hb)
    have R4 := keep (owns_below R3.out hb)
    have Q4 := keep (owns_below Q3.out hb)
    have O4 := keep (O3.out.after hb)
    have B4 := keep (B3.out.trans (hb.mono B3.out.size))
    clear hb hr CS P3 S3 R3 Q3 O3 B3 cg
    have cg := P4.out.cells
    go_wp2_with fail
    refine (CN.out _ _ R4.out).mono ?_
    rintro e w5 ⟨g5, rfl, hr, hb, _⟩
    have C5 := keep hr
    have K5 := keep (owns_below K4.out hb)
    have P5 := keep (P4.out.after hb)
    have S5 := keep (S4.out.after hb)
    have R5 := keep (owns_below R4.out hb)
    have Q5 := keep (owns_below Q4.out hb)
    have O5 := keep (O4.out.after hb)
    have B5 := keep (B4.out.trans (hb.mono B4.out.size))
    clear hb hr CN P4 S4 R4 Q4 O4 B4 K4 cg
    have cg := P5.out.cells
    go_wp2_with fail
    refine (ST.out _ _ R5.out).mono ?_
    rintro e w6 ⟨g6, rfl, hr, hb⟩
    have T6 := keep hr
    have C6 := keep (C5.out.after hb)
    have K6 := keep (owns_below K5.out hb)
    have P6 := keep (P5.out.after hb)
    have S6 := keep (S5.out.after hb)
    have R6 := keep (owns_below R5.out hb)
    have Q6 := keep (owns_below Q5.out hb)
    have O6 := keep (O5.out.after hb)
    have B6 := keep (B5.out.trans (hb.mono B5.out.size))
    clear hb hr ST P5 S5 R5 Q5 O5 B5 K5 C5 cg
    have cg := P6.out.cells
    go_wp2_with fail
    refine (PE.out _ g2 _ _ R6.out O6.out.in_heap (fun i hi => (O6.out.cells i).trans (nCells_at _ i hi))).mono ?_
    rintro e w7 ⟨v7, rfl, hr, hb⟩
    obtain ⟨A7, c7, rfl⟩ := own_slice hr
    have hr2 : RowQ w7 w6.heap.size (.slice A7 (sortQ W H ps).length c7) (sortQ W H ps) := hr
    rw [show (pickQ ps (orderL W H ps)).length = ps.length from SLk.out]
    rw [SLk.out] at hr2
    have P7 := keep ((P6.out.after hb).beside (.cells #[.int .i64 W, .int .i64 H, .slice A7 ps.length c7, .float .f32 m, .float .f32 b] 29))
    have S7 := keep ((S6.out.after hb).beside (.cells #[.int .i64 W, .int .i64 H, .slice A7 ps.length c7, .float .f32 m, .float .f32 b] 29))
    have G7 := keep (Has.made w7 29 #[.int .i64 W, .int .i64 H, .slice A7 ps.length c7, .float .f32 m, .float .f32 b])
    have T7 := keep ((T6.out.after hb).beside (.cells #[.int .i64 W, .int .i64 H, .slice A7 ps.length c7, .float .f32 m, .float .f32 b] 29))
    have C7 := keep ((C6.out.after hb).beside (.cells #[.int .i64 W, .int .i64 H, .slice A7 ps.length c7, .float .f32 m, .float .f32 b] 29))
    have O7 := keep ((O6.out.after hb).beside (.cells #[.int .i64 W, .int .i64 H, .slice A7 ps.length c7, .float .f32 m, .float .f32 b] 29))
    have K7 := keep ((owns_below K6.out hb).alloc (.cells #[.int .i64 W, .int .i64 H, .slice A7 ps.length c7, .float .f32 m, .float .f32 b] 29))
    have R7 : Kept (RowQ (w7.alloc (.cells #[.int .i64 W, .int .i64 H, .slice A7 ps.length c7, .float .f32 m, .float .f32 b] 29)) (w.heap.size + 1) (.slice A ps.length c) ps) := keep ((owns_below R6.out hb).alloc _)
    have Q7 : Kept (RowQ (w7.alloc (.cells #[.int .i64 W, .int .i64 H, .slice A7 ps.length c7, .float .f32 m, .float .f32 b] 29)) w2.heap.size (.slice A3 ps.length c3) (sortQ W H ps)) := keep ((owns_below Q6.out hb).alloc _)
    have U7 : Kept (RowQ (w7.alloc (.cells #[.int .i64 W, .int .i64 H, .slice A7 ps.length c7, .float .f32 m, .float .f32 b] 29)) w6.heap.size (.slice A7 ps.length c7) (sortQ W H ps)) := keep (hr2.alloc _)
    have B7 := keep ((B6.out.trans (hb.mono B6.out.size)).alloc (B6.out.trans (hb.mono B6.out.size)).size (.cells #[.int .i64 W, .int .i64 H, .slice A7 ps.length c7, .float .f32 m, .float .f32 b] 29))
    clear hb hr hr2 PE P6 S6 R6 Q6 O6 B6 K6 C6 T6 cg
    have cg := P7.out.cells
    go_wp2_with fail
    refine (FU.out _ _ R7.out).mono ?_
    rintro e w8 ⟨j, rfl, hj1, hj2, hb⟩
    have J1 := keep hj1
    have J2 := keep hj2
    have P8 := keep (P7.out.after hb)
    have S8 := keep (S7.out.after hb)
    have G8 := keep (G7.out.after hb)
    have T8 := keep (T7.out.after hb)
    have C8 := keep (C7.out.after hb)
    have O8 := keep (O7.out.after hb)
    have K8 := keep (owns_below K7.out hb)
    have R8 := keep (owns_below R7.out hb)
    have Q8 := keep (owns_below Q7.out hb)
    have U8 := keep (owns_below U7.out hb)
    have B8 := keep (B7.out.trans (hb.mono B7.out.size))
    clear hb hj1 hj2 FU P7 S7 G7 T7 C7 O7 K7 R7 Q7 U7 B7 cg
    have cg1 := P8.out.cells
    have cg2 := S8.out.cells
    have cg3 := G8.out.cells
    go_wp2_with fail
    refine (SA.out _ _ _ _ _ U8.out Q8.out).mono ?_
    rintro e w9 ⟨rfl, hb⟩
    have P9 := keep (P8.out.after hb)
    have T9 := keep (T8.out.after hb)
    have C9 := keep (C8.out.after hb)
    have O9 := keep (O8.out.after hb)
    have K9 := keep (owns_below K8.out hb)
    have R9 := keep (owns_below R8.out hb)
    have B9 := keep (B8.out.trans (hb.mono B8.out.size))
    clear hb SA P8 S8 G8 T8 C8 O8 K8 R8 Q8 U8 B8 cg1 cg2 cg3
    have cg := P9.out.cells
    have wm : IntKind.i64.wrap ((W : Int) * (H : Int)) = ((W * H : Nat) : Int) := by
      have : ((W * H : Nat) : Int) = (W : Int) * (H : Int) := Int.natCast_mul ..
      rw [← this, IntWalk.i64_in _ ⟨by omega, by omega⟩]
    go_wp2_with fail
    have ORD := keep (fun i hi => orderL_ord W H ps i hi)
    have SKY := keep (fun i hi h2 => sorted_key W H HS.out ps i hi h2)
    have OIN := keep (fun k i hk hi => order_in W H ps k i hk hi)
    have BSU := keep (fun k => before_succ W H ps k)
    have BLE := keep (fun k hk => before_le W H HS.out ps k hk)
    have BAL := keep (before_all W H HS.out ps)
    have CAT := keep (fun k hk => cntL_at W H HS.out ps k hk)
    have SAT := keep (fun k hk => starts_at W H HS.out ps k hk)
    have CLN := cntL_length W H ps
    have MLE := keep (fun x hx => maxL_le (cntL W H ps) x hx)
    have SMK := keep (show ((sortQ W H ps).map (cellN W H)).length = ps.length by rw [List.length_map]; exact SLk.out)
    have BZ : before W H ps 0 = 0 := rfl
    generalize maxL (cntL W H ps) = M at *
    clear cg wm
    go_loopw [130] (fun s wr => ∃ i : Nat, i ≤ ps.length ∧ s = .int .i64 i ∧ Kept (Below w9.heap.size w9 wr)) (fun s _ => ps.length - (intOf s).toNat)
    case atStart => exact ⟨0, Nat.zero_le _, rfl, keep (Below.refl _ _)⟩
    case round =>
      obtain ⟨i, hi, rfl, hb⟩ := hrel
      by_cases hlt : i < ps.length
      · clear IC OIN BSU BLE BAL CAT SAT CLN MLE J1 J2 T9 C9 P9 R9 BZ
        cases i with
        | zero =>
          go_wp2_with fail
          go_quiet (fail)
          go_wp2_with fail
          go_roundw
          case rel => exact ⟨1, by omega, by go_num, keep (Below.drewN_of hb.out _)⟩
          case measure => simp [intOf]; omega
        | succ i =>
          obtain ⟨gk, ck, ek, hk1, hk2⟩ := K9.out.form (by omega)
          injection ek with e5 e6 e7
          subst e5
          subst e7
          clear e6
          have hoi : i < (orderL W H ps).length := by have := OLk.out; omega
          have hoj : i + 1 < (orderL W H ps).length := by have := OLk.out; omega
          have hki : i < ((sortQ W H ps).map (cellN W H)).length := by rw [SMK.out]; omega
          have hkj : i + 1 < ((sortQ W H ps).map (cellN W H)).length := by rw [SMK.out]; omega
          have k1 := (hb.out.cell (p := ⟨gk, i, none⟩) hk2).trans ((K9.out.cellAt i (by omega)).trans (nList_at _ i hki))
          have k2 := (hb.out.cell (p := ⟨gk, i + 1, none⟩) hk2).trans ((K9.out.cellAt (i + 1) (by omega)).trans (nList_at _ (i + 1) hkj))
          have o1 := (hb.out.cell (p := ⟨g2, i, none⟩) O9.out.in_heap).trans ((O9.out.cells i).trans (nCells_at _ i hoi))
          have o2 := (hb.out.cell (p := ⟨g2, i + 1, none⟩) O9.out.in_heap).trans ((O9.out.cells (i + 1)).trans (nCells_at _ (i + 1) hoj))
          rw [SKY.out i hoi hki] at k1
          rw [SKY.out (i + 1) hoj hkj] at k2
          have oo := ORD.out i hoj
          unfold Ord at oo
          clear ORD SKY
          generalize keyOf W H ps (orderL W H ps)[i] = ka at *
          generalize keyOf W H ps (orderL W H ps)[i + 1] = kb at *
          generalize (orderL W H ps)[i] = oa at *
          generalize (orderL W H ps)[i + 1] = ob at *
          have hjn : (i : Int) + 1 < (ps.length : Int) := by omega
          have hjz : (0 : Int) ≤ (i : Int) + 1 := by omega
          have hj0 : (i : Int) < (ps.length : Int) := by omega
          have wi : IntKind.i64.wrap (i : Int) = (i : Int) := IntWalk.i64_in _ ⟨by omega, by omega⟩
          rcases oo with h1 | ⟨h1, h2⟩
          · have f1 : ((kb : Int) < (ka : Int)) = False := eq_false (by omega)
            have f2 : ((ka : Int) = (kb : Int)) = False := eq_false (by omega)
            clear h1
            go_wp2_with fail
            go_quiet (fail)
            go_wp2_with fail
            go_roundw
            case rel => exact ⟨i + 1 + 1, by omega, by go_num, keep (Below.drewN_of hb.out _)⟩
            case measure => simp [intOf]; omega
          · subst h1
            have f1 : ¬ (ob : Int) ≤ (oa : Int) := by omega
            go_wp2_with fail
            go_quiet (fail)
            go_wp2_with fail
            go_roundw
            case rel => exact ⟨i + 1 + 1, by omega, by go_num, keep (Below.drewN_of hb.out _)⟩
            case measure => simp [intOf]; omega
      · obtain rfl : i = ps.length := by omega
        clear ORD SKY K9
        have HB := keep hb.out
        clear hb
        go_wp2_with fail
        go_loopw [174, 22] (fun s t wr => ∃ k : Nat, k ≤ W * H ∧ s = .int .i64 k ∧ t = .int .i64 ((before W H ps k : Nat) : Int) ∧ Kept (Below w9.heap.size w9 wr)) (fun s _ _ => W * H - (intOf s).toNat)
        case atStart => exact ⟨0, Nat.zero_le _, rfl, by rw [BZ]; rfl, HB⟩
        case round =>
          clear HB BZ
          obtain ⟨k, hk, rfl, rfl, hb⟩ := hrel
          by_cases hlk : k < W * H
          · have cg := (P9.out.after hb.out).cells
            have CC := keep (IC.out _ k hlk _ (owns_below R9.out hb.out))
            go_wp2_with fail
            refine CC.out.mono ?_
            rintro e wq ⟨vq, rfl, hr, hbq⟩
            obtain ⟨D, d, rfl⟩ := own_slice hr
            have hkc : k < (cntL W H ps).length := by omega
            have hks : k < (startsL (cntL W H ps)).length := by rw [startsL_length]; exact hkc
            have HBq := keep (hb.out.trans (hbq.mono hb.out.size))
            have ck := ((C9.out.after HBq.out).cells k).trans (nCells_at _ k hkc)
            have tk := ((T9.out.after HBq.out).cells k).trans (nCells_at _ k hks)
            have mle := MLE.out _ (List.getElem_mem hkc)
            have ekm := List.getElem?_eq_getElem hkc
            rw [CAT.out k hkc] at ck mle ekm
            rw [SAT.out k hks] at tk
            have bs := BSU.out k
            have bl := BLE.out (k + 1) (by omega)
            have oin := keep (fun i hi => OIN.out k i hlk hi)
            have BSk := keep bs
            have RQ := keep hr
            have O10 := keep (O9.out.after HBq.out)
            unfold RowN at RQ
            rw [bs] at bl
            clear bs hr hbq hb cg CC CAT SAT MLE OIN BSU BLE IC
            generalize inC W H ps k = L at *
            generalize before W H ps k = N at *
            have key : (k = j ∧ L.length = M) ∨ (k ≠ j ∧ k < j ∧ L.length ≠ M) ∨ (k ≠ j ∧ ¬ k < j) := by
              by_cases h1 : k = j
              · refine .inl ⟨h1, ?_⟩
                have h2 := J1.out
                rw [← h1, ekm] at h2
                injection h2
              · by_cases h2 : k < j
                · refine .inr (.inl ⟨h1, h2, fun h3 => J2.out k h2 ?_⟩)
                  rw [ekm, h3]
                · exact .inr (.inr ⟨h1, h2⟩)
            have hkn : (k : Int) < (W : Int) * (H : Int) := by
              have : ((W * H : Nat) : Int) = (W : Int) * (H : Int) := Int.natCast_mul ..
              omega
            have wz : IntKind.i64.wrap ((N : Int) + (L.length : Int)) = (N : Int) + (L.length : Int) := IntWalk.i64_in _ ⟨by omega, by omega⟩
            clear ekm hkc hks J1 J2
            rcases key with ⟨rfl, hM⟩ | ⟨h1, h2, h3⟩ | ⟨h1, h2⟩
            · subst hM
              go_wp2_with fail
              go_loopw [238] (fun s wx => ∃ i : Nat, i ≤ L.length ∧ s = .int .i64 i ∧ Kept (Below wq.heap.size wq wx)) (fun s _ => L.length - (intOf s).toNat)
              case atStart => exact ⟨0, Nat.zero_le _, rfl, keep (Below.refl _ _)⟩
              case round =>
                obtain ⟨i, hi, rfl, hbx⟩ := hrel
                by_cases hli : i < L.length
                · obtain ⟨gq, cq, eq1, hq1, hq2⟩ := RQ.out.form (by omega)
                  injection eq1 with e5 e6 e7
                  subst e5
                  subst e7
                  clear e6
                  have l1 := (hbx.out.cell (p := ⟨gq, i, none⟩) hq2).trans ((RQ.out.cellAt i (by omega)).trans (nList_at _ i hli))
                  have oin1 := oin.out i hli
                  rw [List.getElem?_eq_getElem hli] at oin1
                  obtain ⟨hoi, e9⟩ := List.getElem?_eq_some_iff.1 oin1
                  have o1 := ((O10.out.after hbx.out).cells (N + i)).trans (nCells_at _ _ hoi)
                  rw [e9] at o1
                  have OLn := OLk.out
                  rw [OLn] at hoi
                  clear oin1 e9 OLn
                  generalize L[i] = x at *
                  have wv : IntKind.i64.wrap ((N : Int) + (i : Int)) = (N : Int) + (i : Int) := IntWalk.i64_in _ ⟨by omega, by omega⟩
                  have hv1 : (N : Int) + (i : Int) < (ps.length : Int) := by omega
                  have hv2 : (0 : Int) ≤ (N : Int) + (i : Int) := by omega
                  have hv3 : ((N : Int) + (i : Int)).toNat = N + i := by omega
                  have hv4 : (i : Int) < (L.length : Int) := by omega
                  clear wz
                  go_wp2_with fail
                  go_quiet (fail)
                  go_wp2_with fail
                  go_roundw
                  case rel => exact ⟨i + 1, by omega, by go_num, keep (Below.drewN_of hbx.out _)⟩
                  case measure => simp [intOf]; omega
                · obtain rfl : i = L.length := by omega
                  have ck2 := (hbx.out.cell (p := ⟨g5, k, none⟩) (C9.out.after HBq.out).in_heap).trans ck
                  go_wp2_with fail
                  go_roundw
                  case rel => exact ⟨k + 1, by omega, by go_num, by rw [BSk.out, Int.natCast_add], keep (HBq.out.trans (hbx.out.mono HBq.out.size))⟩
                  case measure => simp [intOf]; omega
            · have f1 : ¬ (k : Int) = (j : Int) := by omega
              have f2 : (k : Int) < (j : Int) := by omega
              have f3 : ¬ (L.length : Int) = (M : Int) := by omega
              have f4 : ¬ (M : Int) < (L.length : Int) := by omega
              have f5 : ((L.length : Int) == (M : Int)) = false := beq_eq_false_iff_ne.2 f3
              have f6 : ((k : Int) == (j : Int)) = false := beq_eq_false_iff_ne.2 f1
              clear h1 h2 h3 mle
              go_wp2_with fail
              go_loopw [238] (fun s wx => ∃ i : Nat, i ≤ L.length ∧ s = .int .i64 i ∧ Kept (Below wq.heap.size wq wx)) (fun s _ => L.length - (intOf s).toNat)
              case atStart => exact ⟨0, Nat.zero_le _, rfl, keep (Below.refl _ _)⟩
              case round =>
                obtain ⟨i, hi, rfl, hbx⟩ := hrel
                by_cases hli : i < L.length
                · obtain ⟨gq, cq, eq1, hq1, hq2⟩ := RQ.out.form (by omega)
                  injection eq1 with e5 e6 e7
                  subst e5
                  subst e7
                  clear e6
                  have l1 := (hbx.out.cell (p := ⟨gq, i, none⟩) hq2).trans ((RQ.out.cellAt i (by omega)).trans (nList_at _ i hli))
                  have oin1 := oin.out i hli
                  rw [List.getElem?_eq_getElem hli] at oin1
                  obtain ⟨hoi, e9⟩ := List.getElem?_eq_some_iff.1 oin1
                  have o1 := ((O10.out.after hbx.out).cells (N + i)).trans (nCells_at _ _ hoi)
                  rw [e9] at o1
                  have OLn := OLk.out
                  rw [OLn] at hoi
                  clear oin1 e9 OLn
                  generalize L[i] = x at *
                  have wv : IntKind.i64.wrap ((N : Int) + (i : Int)) = (N : Int) + (i : Int) := IntWalk.i64_in _ ⟨by omega, by omega⟩
                  have hv1 : (N : Int) + (i : Int) < (ps.length : Int) := by omega
                  have hv2 : (0 : Int) ≤ (N : Int) + (i : Int) := by omega
                  have hv3 : ((N : Int) + (i : Int)).toNat = N + i := by omega
                  have hv4 : (i : Int) < (L.length : Int) := by omega
                  clear wz
                  go_wp2_with fail
                  go_quiet (fail)
                  go_wp2_with fail
                  go_roundw
                  case rel => exact ⟨i + 1, by omega, by go_num, keep (Below.drewN_of hbx.out _)⟩
                  case measure => simp [intOf]; omega
                · obtain rfl : i = L.length := by omega
                  have ck2 := (hbx.out.cell (p := ⟨g5, k, none⟩) (C9.out.after HBq.out).in_heap).trans ck
                  go_wp2_with fail
                  go_roundw
                  case rel => exact ⟨k + 1, by omega, by go_num, by rw [BSk.out, Int.natCast_add], keep (HBq.out.trans (hbx.out.mono HBq.out.size))⟩
                  case measure => simp [intOf]; omega
            · have f1 : ¬ (k : Int) = (j : Int) := by omega
              have f2 : ¬ (k : Int) < (j : Int) := by omega
              have f4 : ¬ (M : Int) < (L.length : Int) := by omega
              have f6 : ((k : Int) == (j : Int)) = false := beq_eq_false_iff_ne.2 f1
              clear h1 h2 mle
              go_wp2_with fail
              go_loopw [238] (fun s wx => ∃ i : Nat, i ≤ L.length ∧ s = .int .i64 i ∧ Kept (Below wq.heap.size wq wx)) (fun s _ => L.length - (intOf s).toNat)
              case atStart => exact ⟨0, Nat.zero_le _, rfl, keep (Below.refl _ _)⟩
              case round =>
                obtain ⟨i, hi, rfl, hbx⟩ := hrel
                by_cases hli : i < L.length
                · obtain ⟨gq, cq, eq1, hq1, hq2⟩ := RQ.out.form (by omega)
                  injection eq1 with e5 e6 e7
                  subst e5
                  subst e7
                  clear e6
                  have l1 := (hbx.out.cell (p := ⟨gq, i, none⟩) hq2).trans ((RQ.out.cellAt i (by omega)).trans (nList_at _ i hli))
                  have oin1 := oin.out i hli
                  rw [List.getElem?_eq_getElem hli] at oin1
                  obtain ⟨hoi, e9⟩ := List.getElem?_eq_some_iff.1 oin1
                  have o1 := ((O10.out.after hbx.out).cells (N + i)).trans (nCells_at _ _ hoi)
                  rw [e9] at o1
                  have OLn := OLk.out
                  rw [OLn] at hoi
                  clear oin1 e9 OLn
                  generalize L[i] = x at *
                  have wv : IntKind.i64.wrap ((N : Int) + (i : Int)) = (N : Int) + (i : Int) := IntWalk.i64_in _ ⟨by omega, by omega⟩
                  have hv1 : (N : Int) + (i : Int) < (ps.length : Int) := by omega
                  have hv2 : (0 : Int) ≤ (N : Int) + (i : Int) := by omega
                  have hv3 : ((N : Int) + (i : Int)).toNat = N + i := by omega
                  have hv4 : (i : Int) < (L.length : Int) := by omega
                  clear wz
                  go_wp2_with fail
                  go_quiet (fail)
                  go_wp2_with fail
                  go_roundw
                  case rel => exact ⟨i + 1, by omega, by go_num, keep (Below.drewN_of hbx.out _)⟩
                  case measure => simp [intOf]; omega
                · obtain rfl : i = L.length := by omega
                  have ck2 := (hbx.out.cell (p := ⟨g5, k, none⟩) (C9.out.after HBq.out).in_heap).trans ck
                  go_wp2_with fail
                  go_roundw
                  case rel => exact ⟨k + 1, by omega, by go_num, by rw [BSk.out, Int.natCast_add], keep (HBq.out.trans (hbx.out.mono HBq.out.size))⟩
                  case measure => simp [intOf]; omega
          · obtain rfl : k = W * H := by omega
            have cg := (P9.out.after hb.out).cells
            have e := BAL.out
            rw [e]
            clear e
            go_wp2_with fail
            go_ret
            exact ⟨rfl, B9.out.trans (hb.out.mono B9.out.size)⟩
end Go.Proofs.Ytnmdgbnophclnaa
