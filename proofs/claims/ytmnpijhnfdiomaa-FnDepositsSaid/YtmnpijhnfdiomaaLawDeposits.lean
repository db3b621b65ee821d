/- The law FnDeposits by its walk: charge is neither lost nor made, particles that are moved by whole cells leave what is moved by these, and each particle is counted in one cell. No condition but that the bytes can be read. -/
import Derived.Test.YtmnpijhnfdiomaaKg
import Derived.Test.YtmnpijhnfdiomaaHh
import Derived.Test.YtmnpijhnfdiomaaLawShares
namespace Go.Proofs.Ytmnpijhnfdiomaa
open Go.RowKit Go.Sort Ieee
set_option linter.unusedSimpArgs false

set_option maxHeartbeats 8000000 in
set_option maxRecDepth 100000 in
theorem lawDeposits_any (a1 a2 : Option Addr) (n1 c1 n2 c2 : Nat) (w : World) (hb1 : Bytes w a1 n1) (hb2 : Bytes w a2 n2) :
    Calls Try.prog 6 #[.slice a1 n1 c1, .slice a2 n2 c2] w fun e w' => e = .returned (.bool true) ∧ Below w.heap.size w w' := by
  have LO := keep (fun w => r8Long_any a1 a2 n1 c1 n2 c2 w)
  cases hl : (decide (48 < n1) || decide (48 < n2))
  case true =>
    rw [hl] at LO
    clear hl hb1 hb2
    go_enter Try.func6, Try.ntmps6
    go_wp2_with fail
    refine (LO.out _).mono ?_
    rintro e w' ⟨rfl, rfl⟩
    go_wp2_with fail
    go_ret
    exact ⟨rfl, Below.refl _ _⟩
  case false =>
    rw [hl] at LO
    have GR := keep (R8Grid_ok a1 n1 c1 w hb1)
    have HB2 := keep hb2
    clear hl hb1 hb2
    go_enter Try.func6, Try.ntmps6
    go_wp2_with fail
    refine (LO.out _).mono ?_
    rintro e w' ⟨rfl, rfl⟩
    go_wp2_with fail
    refine GR.out.mono ?_
    rintro e w1 ⟨W, H, ⟨hs, hH6⟩, rfl, hb⟩
    have HS := keep hs
    have GV : gridV W H = .agg #[.int .i64 W, .int .i64 H] := rfl
    have P1 := keep (Has.made w1 25 #[.int .i64 W, .int .i64 H])
    have B1 := keep (hb.alloc hb.size (.cells #[.int .i64 W, .int .i64 H] 25))
    have LI := keep (R8List_ok a2 n2 c2 _ (HB2.out.aft B1.out))
    rw [GV]
    clear hb GV LO GR hs
    go_wp2_with fail
    refine LI.out.mono ?_
    rintro e w2 ⟨gs, v, hN, hok, rfl, hown, hb⟩
    obtain ⟨VA, vc, rfl⟩ := own_slice hown
    have HO := keep hok
    have O2 := keep (own_base hown (Nat.zero_le _))
    have p2 := P1.out.after hb
    have cg := p2.cells
    have P2 := keep p2
    have B2 := keep (B1.out.trans (hb.mono B1.out.size))
    have SL := size_le W H HS.out
    have D1' := fun w h => DepositOf_ok W H HS.out 0 (.slice VA gs.length vc) gs w h HO.out hN
    have HSok : ∀ X Y : Int, ∀ p ∈ gs.map (shiftG W H X Y), p.ok := fun X Y q hq => by
      obtain ⟨p, hp, rfl⟩ := List.mem_map.1 hq
      exact shiftG_ok HS.out X Y (HO.out p hp)
    have L1 : ∀ X Y : Int, (gs.map (shiftG W H X Y)).length = gs.length := fun X Y => List.length_map _
    have E1 : ∀ X Y : Int, (gs.map (shiftG W H X Y)).map GP.pd = gs.map (fun p => (shiftG W H X Y p).pd) := fun X Y => by rw [List.map_map]; rfl
    have D2' := fun X Y B v w (h : w.ownsRow B 50 4 v (gs.map (shiftG W H X Y)).length (psCells ((gs.map (shiftG W H X Y)).map GP.pd))) => DepositOf_ok W H HS.out B v (gs.map (shiftG W H X Y)) w h (HSok X Y) (by rw [L1]; exact hN)
    simp only [L1, E1, shift_law W H (by have := HS.out.1.1; omega) (by have := HS.out.2.1; omega)] at D2'
    have SP' := fun X Y hX hY w h => ShiftParticles_ok W H HS.out X Y hX hY 0 (.slice VA gs.length vc) gs w h HO.out hN
    have SF' := fun X Y hX hY g w hh => ShiftField_ok W H HS.out X Y hX hY g (depAll W H gs) (depAll_length W H gs) w hh
    have CC' := fun w h => CountCells_ok W H HS.out 0 (.slice VA gs.length vc) gs w h HO.out hN
    have sm := depAll_small W H gs HO.out
    have dl := depAll_length W H gs
    have smb : Small (depAll W H gs) 6144 := fun n hn => Nat.le_trans (sm n hn) (by omega)
    have TT' := fun g w hh => TotalOf_ok 7 (by omega) g (depAll W H gs) 6144 smb (by rw [dl]; omega) (by rw [dl]; omega) (W * H) w hh
    rw [total_law W H HS.out, dl] at TT'
    have bq := sumQ_bound gs HO.out
    rw [charge_word (sumQ gs) (by omega)] at TT'
    have oq := keep (order_wd_self 1 (sumQ gs) (by omega) (by omega))
    have CH := keep (fun w h => ChargeOf_ok 0 (.slice VA gs.length vc) gs w h HO.out hN)
    have AR := keep (fun w h => Areg_ok 0 (.slice VA gs.length vc) gs w h HO.out hN)
    have IF' := fun g c w => IsField_ok W H HS.out (some ⟨g, 0, none⟩) c w
    have RE' := fun X Y g1 g2 w h1 h2 => r8Equal_ok 7 (by omega) g1 g2 (shiftF W H X Y (depAll W H gs)) 6144 (smb.shift W H X Y) (by omega) (by rw [shiftF_length]; omega) (W * H) (W * H) w h1 h2
    simp only [shiftF_length] at RE'
    clear hown hok hb LI P1 B1 HSok L1 E1 sm dl smb bq p2
    generalize W * H = n at *
    have D1 := keep D1'
    have D2 := keep D2'
    have SP := keep SP'
    have SF := keep SF'
    have CC := keep CC'
    have TT := keep TT'
    have IF := keep IF'
    have RE := keep RE'
    have R0 := keep (fun w hb => r8At_ok a2 n2 c2 0 9 w hb (by omega) (by omega))
    have R1 := keep (fun w hb => r8At_ok a2 n2 c2 1 9 w hb (by omega) (by omega))
    clear D1' D2' SP' SF' CC' TT' IF' RE'
    unfold gridV placeV at *
    generalize depAll W H gs = F0 at *
    generalize sumQ gs = q0 at *
    go_wp2_with fail
    refine (D1.out _ O2.out).mono ?_
    rintro e w3 ⟨g1, rfl, hf, hb⟩
    have F3 := keep hf
    have p3 := P2.out.after hb
    clear cg
    have cg := p3.cells
    have P3 := keep p3
    have O3 := keep (owns_below O2.out hb)
    have B3 := keep (B2.out.trans (hb.mono B2.out.size))
    clear hf hb p3 P2 O2 B2 D1
    go_wp2_with fail
    refine (TT.out _ _ F3.out).mono ?_
    rintro e w' ⟨rfl, rfl⟩
    clear TT
    go_wp2_with fail
    refine (CH.out _ O3.out).mono ?_
    rintro e w4 ⟨rfl, hb⟩
    have F4 := keep (F3.out.after hb)
    have p4 := P3.out.after hb
    clear cg
    have cg := p4.cells
    have P4 := keep p4
    have O4 := keep (owns_below O3.out hb)
    have B4 := keep (B3.out.trans (hb.mono B3.out.size))
    clear hb p4 P3 O3 B3 F3 CH
    go_wp2_with fail
    refine (R0.out _ (HB2.out.aft B4.out)).mono ?_
    rintro e w' ⟨⟨r0, h0, rfl⟩, rfl⟩
    have wr0 : IntKind.i64.wrap ((r0 : Int) - 4) = (r0 : Int) - 4 := IntWalk.i64_in _ ⟨by omega, by omega⟩
    clear R0
    go_wp2_with fail
    clear wr0
    refine (R1.out _ (HB2.out.aft B4.out)).mono ?_
    rintro e w5 ⟨⟨r1, h1, rfl⟩, rfl⟩
    have wr1 : IntKind.i64.wrap ((r1 : Int) - 4) = (r1 : Int) - 4 := IntWalk.i64_in _ ⟨by omega, by omega⟩
    have hx : ((r0 : Int) - 4).natAbs ≤ 4 := by omega
    have hy : ((r1 : Int) - 4).natAbs ≤ 4 := by omega
    have SPi := keep (fun w h => SP.out _ _ hx hy w h)
    have SFi := keep (fun g w hh => SF.out _ _ hx hy g w hh)
    have D2i := keep (fun B v w h => D2.out ((r0 : Int) - 4) ((r1 : Int) - 4) B v w h)
    have REi := keep (fun g1 g2 w h1 h2 => RE.out ((r0 : Int) - 4) ((r1 : Int) - 4) g1 g2 w h1 h2)
    have i0 := int_word ((r0 : Int) - 4) (by omega)
    have i1 := int_word ((r1 : Int) - 4) (by omega)
    clear R1 hx hy SP SF D2 RE h0 h1
    go_wp2_with fail
    refine (SPi.out _ O4.out).mono ?_
    rintro e w6 ⟨A6, k6, rfl, hown, hb⟩
    have F6 := keep (F4.out.after hb)
    have p6 := P4.out.after hb
    clear cg i0 i1
    have cg := p6.cells
    have P6 := keep p6
    have O6 := keep (owns_below O4.out hb)
    have M6 := keep hown
    have B6 := keep (B4.out.trans (hb.mono B4.out.size))
    clear hb hown p6 P4 O4 B4 F4 SPi wr1
    go_wp2_with fail
    refine (D2i.out _ _ _ M6.out).mono ?_
    rintro e w7 ⟨g2, rfl, hf, hb⟩
    have F7 := keep (F6.out.after hb)
    have G7 := keep hf
    have p7 := P6.out.after hb
    clear cg
    have cg := p7.cells
    have P7 := keep p7
    have O7 := keep (owns_below O6.out hb)
    have B7 := keep (B6.out.trans (hb.mono B6.out.size))
    clear hb hf p7 P6 O6 B6 F6 M6 D2i
    go_wp2_with fail
    refine (SFi.out _ _ F7.out).mono ?_
    rintro e w8 ⟨g3, rfl, hf, hb⟩
    have F8 := keep (F7.out.after hb)
    have G8 := keep (G7.out.after hb)
    have S8 := keep hf
    have p8 := P7.out.after hb
    clear cg
    have cg := p8.cells
    have P8 := keep p8
    have O8 := keep (owns_below O7.out hb)
    have B8 := keep (B7.out.trans (hb.mono B7.out.size))
    clear hb hf p8 P7 O7 B7 F7 G7 SFi
    go_wp2_with fail
    refine (CC.out _ O8.out).mono ?_
    rintro e w9 ⟨g4, cs, rfl, hf, hsum, hlen, hb⟩
    have C9 := keep hf
    have G9 := keep (G8.out.after hb)
    have S9 := keep (S8.out.after hb)
    have p9 := P8.out.after hb
    clear cg
    have cg := p9.cells
    have P9 := keep p9
    have O9 := keep (owns_below O8.out hb)
    have B9 := keep (B8.out.trans (hb.mono B8.out.size))
    have HSUM := keep hsum
    clear hb hf p9 P8 O8 B8 F8 G8 S8 CC hsum
    have oqq := oq.out
    go_wp2_with fail
    refine (IF.out _ _ _).mono ?_
    rintro e w10 ⟨rfl, hb⟩
    have C10 := keep (C9.out.after hb)
    have G10 := keep (G9.out.after hb)
    have S10 := keep (S9.out.after hb)
    have O10 := keep (owns_below O9.out hb)
    have B10 := keep (B9.out.trans (hb.mono B9.out.size))
    clear hb P9 O9 B9 C9 G9 S9 IF cg
    go_wp2_with fail
    refine (REi.out _ _ _ G10.out S10.out).mono ?_
    rintro e w11 ⟨rfl, hb⟩
    have C11 := keep (C10.out.after hb)
    have O11 := keep (owns_below O10.out hb)
    have B11 := keep (B10.out.trans (hb.mono B10.out.size))
    clear hb O10 B10 C10 G10 S10 REi oqq oq
    go_wp2_with fail
    go_loopw [24, 23] (fun s t wr => ∃ i : Nat, i ≤ cs.length ∧ s = .int .i64 i ∧ t = .int .i64 (((cs.take i).sum : Nat) : Int) ∧ wr = w11) (fun s _ _ => cs.length - (intOf s).toNat)
    case atStart => exact ⟨0, Nat.zero_le _, rfl, rfl, rfl⟩
    case round =>
      obtain ⟨i, hi, rfl, rfl, rfl⟩ := hrel
      by_cases hlt : i < cs.length
      · have z1 := (C11.out.cells i).trans (nCells_at cs i hlt)
        have e1 : (cs.take (i + 1)).sum = (cs.take i).sum + cs[i] := by
          rw [List.take_succ_eq_append_getElem hlt, List.sum_append]
          simp
        have e2 : cs.sum = (cs.take (i + 1)).sum + (cs.drop (i + 1)).sum := by
          rw [← List.sum_append, List.take_append_drop]
        have hs := HSUM.out
        generalize (cs.take i).sum = S at *
        generalize cs[i] = ci at *
        have wz : IntKind.i64.wrap ((S : Int) + (ci : Int)) = (S : Int) + (ci : Int) := IntWalk.i64_in _ ⟨by omega, by omega⟩
        have E1 := keep e1
        clear e1 e2 hs
        go_wp2_with fail
        go_roundw
        case rel => exact ⟨i + 1, by omega, by go_num, by rw [E1.out]; rfl, by trivial⟩
        case measure => simp [intOf]; omega
      · obtain rfl : i = cs.length := by omega
        have hs := HSUM.out
        rw [List.take_length, hs]
        clear hs
        go_wp2_with fail
        refine (AR.out _ O11.out).mono ?_
        rintro e w12 ⟨rfl, hb⟩
        have B12 := keep (B11.out.trans (hb.mono B11.out.size))
        clear hb
        go_wp2_with fail
        go_ret
        exact ⟨rfl, B12.out⟩
end Go.Proofs.Ytmnpijhnfdiomaa
