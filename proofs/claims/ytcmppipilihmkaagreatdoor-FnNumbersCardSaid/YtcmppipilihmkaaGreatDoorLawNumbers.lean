/- The law FnNumbers by its walk: bits and texts of any numbers are read back, flushed numbers are not subnormal, sums are made from left to right, and the angle of a point is that of its complex number. Conditions: that the bytes can be read; what three of the library's variables hold. -/
import Derived.Test.YtcmppipilihmkaaGreatDoorZh
import Derived.Test.YtcmppipilihmkaaGreatDoorZe
namespace Go.Proofs.YtcmppipilihmkaaGreatDoor
open Go.RowKit Go.Sort Ieee
set_option linter.unusedSimpArgs false

theorem zaft {w w' : World} {a : Option Addr} {n : Nat} (h : Bytes w a n) (hb : Below w.heap.size w w') : Bytes w' a n :=
  h.later hb (fun b o e hn => by
    obtain ⟨b', o', e', hl, _⟩ := h 0 hn
    rw [e] at e'
    injection e' with e'
    injection e' with e'
    omega)
theorem BitsOf_ok (b : Nat) (w : World) (hb : b < 4294967296) : Calls Tryz.prog 21 #[.float .f32 b] w fun e w' => e = .returned (.int .i64 (cb b : Int)) ∧ w' = w := BitsOf_any b w hb

set_option maxHeartbeats 16000000 in
set_option maxRecDepth 100000 in
theorem lawNumbers_any (a1 a2 : Option Addr) (n1 c1 n2 c2 : Nat) (w : World) (hb1 : Bytes w a1 n1) (hb2 : Bytes w a2 n2) (hmx : MX w) (her : ER w) (htz : TZ w) (h0 : 0 < w.heap.size) :
    Calls Tryz.prog 4 #[.slice a1 n1 c1, .slice a2 n2 c2] w fun e w' => e = .returned (.bool true) ∧ Below w.heap.size w w' := by
  have LO := keep (fun w => zb10Long a1 a2 n1 c1 n2 c2 w)
  cases hl : (decide (1048576 < n1) || decide (1048576 < n2))
  case true =>
    rw [hl] at LO
    clear hl hb1 hb2 hmx her htz
    go_enter Tryz.func4, Tryz.ntmps4
    go_wp2_with fail
    refine (LO.out _).mono ?_
    rintro e w' ⟨rfl, rfl⟩
    go_wp2_with fail
    go_ret
    exact ⟨rfl, Below.refl _ _⟩
  case false =>
    rw [hl] at LO
    have HB1 := keep hb1
    have HB2 := keep hb2
    have HMX := keep hmx
    have HER := keep her
    have HTZ := keep htz
    clear hl hb1 hb2 hmx her htz
    go_enter Tryz.func4, Tryz.ntmps4
    go_wp2_with fail
    refine (LO.out _).mono ?_
    rintro e w' ⟨rfl, hw⟩
    have hw := hw.symm
    subst hw
    clear LO
    go_wp2_with fail
    refine (B10Number_ok a1 n1 c1 w HB1.out).mono ?_
    rintro e w1 ⟨x, hx, rfl, hb⟩
    have B1 := keep hb
    clear hb
    go_wp2_with fail
    refine (B10Number_ok a2 n2 c2 w1 (zaft HB2.out B1.out)).mono ?_
    rintro e w2 ⟨y, hy, rfl, hb⟩
    have B2 := keep (B1.out.trans (hb.mono B1.out.size))
    have BO := keep (fun w => BitsOf_ok x w hx)
    have FB := keep (fun w => FromBits_ok (cb x) w (cb_lt hx))
    have FL := keep (fun w => FlushNumber_any x w)
    clear hb B1
    go_wp2_with fail
    refine (BO.out _).mono ?_
    rintro e w' ⟨rfl, hw⟩
    have hw := hw.symm
    subst hw
    go_wp2_with fail
    refine (FB.out _).mono ?_
    rintro e w' ⟨rfl, hw⟩
    have hw := hw.symm
    subst hw
    go_wp2_with fail
    refine (FL.out _).mono ?_
    rintro e w3 ⟨rfl, m3, hw⟩
    have B3 := keep (show Below w.heap.size w w3 by rw [hw]; exact Below.drewN_of B2.out _)
    clear hw B2 BO FB FL
    go_wp2_with fail
    refine (zb10At a1 n1 c1 0 12 _ (zaft HB1.out B3.out) (by omega) (by omega) (by omega)).mono ?_
    rintro e w' ⟨⟨r, hr, rfl⟩, hw⟩
    have hw := hw.symm
    subst hw
    go_wp2_with fail
    refine (B10Numbers_ok a2 n2 c2 r _ (zaft HB2.out B3.out) (by omega)).mono ?_
    rintro e w4 ⟨xs, A, cp, hxl, hx32, rfl, ho, hb⟩
    obtain rfl := hxl
    have B4 := keep (B3.out.trans (hb.mono B3.out.size))
    have HO := keep ho
    have HX := keep hx32
    clear hb B3 ho hx32
    go_wp2_with fail
    go_loopw [11, 41] (fun o t wr => ∃ (i r m : Nat), o = .float .f32 r ∧ t = .int .i64 i ∧ i ≤ xs.length ∧ Kept (r < 4294967296) ∧ Kept (FEq .f32 r (sumF (xs.take i))) ∧ wr = w4.drewN m) (fun _ t _ => xs.length - (intOf t).toNat)
    case atStart => exact ⟨0, 0, 0, rfl, rfl, by omega, keep (by omega), keep (.inl rfl), rfl⟩
    case round =>
      obtain ⟨i, r, m, rfl, rfl, hi, hr2, hf, hwr⟩ := hrel
      by_cases hlt : i < xs.length
      · obtain ⟨g, hA, hg, hc⟩ := HO.out.cell i hlt
        subst hA
        have hc2 : wr.cell? ⟨g, i, none⟩ = some (.float .f32 xs[i]) := by rw [hwr]; exact hc
        have SN := keep (sumF_snoc xs i hlt)
        have hltI : (i : Int) < (xs.length : Int) := by omega
        have HWR := keep hwr
        clear hc hg hwr
        generalize xs[i] = x at *
        go_wp2_with (refine wpList_farith_lt rfl .add _ _ _ _ rfl rfl _ _ rfl rfl ?_; intro z m2 hz lz)
        go_roundw
        case rel => exact ⟨i + 1, z, m + m2, rfl, by go_num, by omega, keep lz, keep (by rw [SN.out]; exact hz.trans (fop_left rfl x hf.out)), by rw [HWR.out, World.drewN_drewN]⟩
        case measure => simp [intOf]; omega
      · obtain rfl : i = xs.length := by omega
        have hf2 := hf.out
        rw [List.take_length] at hf2
        have HF := keep hf2
        have B5 := keep (show Below w.heap.size w wr by rw [hwr]; exact Below.drewN_of B4.out _)
        have HO5 := keep (show Wds wr w3.heap.size (.slice A xs.length cp) xs by rw [hwr]; exact HO.out)
        clear hf hf2 hwr HO B4
        go_wp2_with fail
        refine (SumNumbers_ok w3.heap.size xs.length cp A xs wr HO5.out (by omega)).mono ?_
        rintro e w6 ⟨s, m6, rfl, hs, hfs, hw⟩
        have B6 := keep (show Below w.heap.size w w6 by rw [hw]; exact Below.drewN_of B5.out _)
        have HO6 := keep (show Wds w6 w3.heap.size (.slice A xs.length cp) xs by rw [hw]; exact HO5.out)
        have S4 := keep (show ∀ w, Calls Tryz.prog 10 #[.float .f32 s, .float .f32 r] w fun e w' => e = .returned (.bool true) ∧ w' = w from fun w => by
          have h := SameNumber_ok s r w hs hr2.out
          rw [(hfs.trans HF.out.symm).cb, beq_self_eq_true] at h
          exact h)
        clear hw hfs HF HO5 B5 hs hr2
        go_wp2_with fail
        refine (NumbersText_ok w3.heap.size xs.length cp A xs w6 HO6.out HX.out (by omega) rfl (HTZ.out.below B6.out (Nat.le_refl _))).mono ?_
        rintro e w7 ⟨rfl, hb⟩
        have B7 := keep (B6.out.trans (hb.mono B6.out.size))
        have HO7 := keep (show Wds w7 w3.heap.size (.slice A xs.length cp) xs from owns_below HO6.out hb)
        have GT := keep (text_words xs (by omega) HX.out)
        have TL := textL_size 8 (xs.map wtx) (fun p hp => by
          obtain ⟨b, hb, rfl⟩ := List.mem_map.1 hp
          exact hex8_len _ (cb_lt (HX.out b hb))) (by rw [List.length_map]; omega) (by omega)
        clear hb HO6 B6
        generalize textL (xs.map wtx) = tl at *
        go_wp2_with fail
        refine (ReadNumbers_any tl w7 (by omega) (HMX.out.below B7.out (Nat.le_refl _) h0) (HER.out.below B7.out (Nat.le_refl _)) (HTZ.out.below B7.out (Nat.le_refl _))).mono ?_
        rintro e w8 ⟨hg, hb⟩
        have B8 := keep (B7.out.trans (hb.mono B7.out.size))
        have HO8 := keep (show Wds w8 w3.heap.size (.slice A xs.length cp) xs from owns_below HO7.out hb)
        obtain ⟨A2, cp2, he, HR8⟩ : ∃ (A2 : Option Addr) (cp2 : Nat), e = .returned (.tuple #[.slice A2 xs.length cp2, .bool true]) ∧ Kept (Wds w8 w7.heap.size (.slice A2 xs.length cp2) (xs.map cb)) := by
          rcases hg with ⟨gn, _⟩ | ⟨cs, A2, c2, gs, he, ho⟩
          · rw [GT.out] at gn; cases gn
          · rw [GT.out] at gs
            injection gs with gs
            subst gs
            have e1 : (xs.map cb).length = xs.length := List.length_map _
            refine ⟨A2, c2, by rw [he, e1], keep ?_⟩
            show w8.ownsRow _ _ 1 (.slice A2 xs.length c2) (xs.map cb).length _
            have ho2 := ho
            rw [e1] at ho2 ⊢
            exact ho2
        subst he
        clear hg hb HO7 B7 GT TL
        have S1 := keep (show ∀ (x : Nat) (hx : x < 4294967296) (w : World), Calls Tryz.prog 10 #[.float .f32 (cb x), .float .f32 x] w fun e w' => e = .returned (.bool true) ∧ w' = w from fun x hx w => by
          have h := SameNumber_ok (cb x) x w (cb_lt hx) hx
          rw [cb_cb, beq_self_eq_true] at h
          exact h)
        have IZ := keep (fun w => IsSubnormal_any (flush x) w)
        rw [flush_sub] at IZ
        have IX := keep (fun w => IsSubnormal_any x w)
        have SZ := keep (fun w => SameNumber_ok x (flush x) w hx (flush_lt hx))
        rw [flush_cb] at SZ
        generalize sub32 x = sb at *
        obtain ⟨za, HZA⟩ := AngleTurns_ok y x
        have AT := keep HZA
        have AO := keep (AngleOf_of y x za HZA)
        have NB := keep (fun r w h => NarrowNumber_back x r w hx h)
        have ST := keep (fun w => SineTurns_quarter w)
        have ord1 : FloatKind.f32.format.order 1065353216 1065353216 = some .eq := by decide +kernel
        have HX2 := keep hx
        clear HZA hy hx
        cases sb
        all_goals
          simp only [Bool.not_false, Bool.not_true] at SZ
          go_wp2_with fail
          refine (S1.out x HX2.out _).mono ?_
          rintro e w' ⟨rfl, hw⟩
          have hw := hw.symm
          subst hw
          go_wp2_with fail
          refine (IZ.out _).mono ?_
          rintro e w' ⟨rfl, m1, rfl⟩
          go_wp2_with fail
          refine (IX.out _).mono ?_
          rintro e w' ⟨rfl, m2, rfl⟩
          go_wp2_with fail
          refine (SZ.out _).mono ?_
          rintro e w' ⟨rfl, hw⟩
          have hw := hw.symm
          subst hw
          go_wp2_with fail
          refine (S4.out _).mono ?_
          rintro e w' ⟨rfl, hw⟩
          have hw := hw.symm
          subst hw
          go_wp2_with fail
          have B9 := keep (show Below w.heap.size w (w8.drewN (m1 + m2)) from Below.drewN_of B8.out _)
          have HO9 := keep (show Wds (w8.drewN (m1 + m2)) w3.heap.size (.slice A xs.length cp) xs from HO8.out)
          have HR9 := keep (show Wds (w8.drewN (m1 + m2)) w7.heap.size (.slice A2 xs.length cp2) (xs.map cb) from HR8.out)
          clear B8 HO8 HR8 IZ IX SZ S4
          generalize (w8.drewN (m1 + m2)) = w9 at *
          go_loopw [113] (fun t wr => ∃ (i m : Nat), t = .int .i64 i ∧ i ≤ xs.length ∧ wr = w9.drewN m) (fun t _ => xs.length - (intOf t).toNat)
          case atStart => exact ⟨0, 0, rfl, by omega, rfl⟩
          case round =>
            obtain ⟨i, m, rfl, hi, hwr⟩ := hrel
            by_cases hlt : i < xs.length
            · obtain ⟨g, hA, hg, hc⟩ := HO9.out.cell i hlt
              obtain ⟨g2, hA2, hg2, hc2⟩ := HR9.out.cell i (by rw [List.length_map]; exact hlt)
              subst hA
              subst hA2
              have d1 : wr.cell? ⟨g, i, none⟩ = some (.float .f32 xs[i]) := by rw [hwr]; exact hc
              have d2 : wr.cell? ⟨g2, i, none⟩ = some (.float .f32 (cb xs[i])) := by
                rw [hwr]
                rw [List.getElem_map] at hc2
                exact hc2
              have SX := keep (S1.out xs[i] (HX.out _ (List.getElem_mem hlt)))
              have hltI : (i : Int) < (xs.length : Int) := by omega
              have hI0 : (0 : Int) ≤ (i : Int) := by omega
              have HWR := keep hwr
              clear hc hg hc2 hg2 hwr
              generalize xs[i] = q at *
              generalize cb q = q2 at *
              go_wp2_with fail
              go_quiet (first | (go_at_call 10; exact Calls.quiet_of_same (SX.out _)))
              go_wp2_with fail
              go_roundw
              case rel =>
                first
                  | exact ⟨i + 1, m, by go_num, by omega, HWR.out⟩
                  | exact ⟨i + 1, _, by go_num, by omega, by rw [HWR.out, World.drewN_drewN]⟩
              case measure => simp [intOf]; omega
            · obtain rfl : i = xs.length := by omega
              have B10 := keep (show Below w.heap.size w wr by rw [hwr]; exact Below.drewN_of B9.out _)
              clear hwr B9 HO9 HR9
              go_wp2_with fail
              refine (AT.out _).mono ?_
              rintro e w10 ⟨z1, rfl, hz1, hf1, hb⟩
              have B11 := keep (B10.out.trans (hb.mono B10.out.size))
              clear hb B10
              go_wp2_with fail
              refine (AO.out _).mono ?_
              rintro e w11 ⟨z2, rfl, hz2, hf2, hb⟩
              have B12 := keep (B11.out.trans (hb.mono B11.out.size))
              have SA := keep (show ∀ w, Calls Tryz.prog 10 #[.float .f32 z1, .float .f32 z2] w fun e w' => e = .returned (.bool true) ∧ w' = w from fun w => by
                have h := SameNumber_ok z1 z2 w hz1 hz2
                rw [(hf1.trans hf2.symm).cb, beq_self_eq_true] at h
                exact h)
              obtain ⟨rw9, m12, hrun, hrf, _⟩ := run_widen_lt w11 x
              have NBw := keep (fun w => NB.out rw9 w hrf)
              clear hb B11 hf1 hf2 hz1 hz2 hrf
              go_wp2_with fail
              refine (SA.out _).mono ?_
              rintro e w' ⟨rfl, hw⟩
              have hw := hw.symm
              subst hw
              go_wp2_with fail
              refine (NBw.out _).mono ?_
              rintro e w13 ⟨z3, m13, rfl, hz3, hcz, hw13⟩
              have B13 := keep (show Below w.heap.size w w13 by rw [hw13]; exact Below.drewN_of (Below.drewN_of B12.out _) _)
              have SZ3 := keep (show ∀ w, Calls Tryz.prog 10 #[.float .f32 z3, .float .f32 x] w fun e w' => e = .returned (.bool true) ∧ w' = w from fun w => by
                have h := SameNumber_ok z3 x w hz3 HX2.out
                rw [hcz, beq_self_eq_true] at h
                exact h)
              clear hw13 hz3 hcz B12
              go_wp2_with fail
              refine (SZ3.out _).mono ?_
              rintro e w' ⟨rfl, hw⟩
              have hw := hw.symm
              subst hw
              go_wp2_with fail
              refine (ST.out _).mono ?_
              rintro e w14 ⟨rfl, m14, hw14⟩
              have B14 := keep (show Below w.heap.size w w14 by rw [hw14]; exact Below.drewN_of B13.out _)
              clear hw14 B13
              go_wp2_with fail
              go_ret
              exact ⟨rfl, B14.out⟩
end Go.Proofs.YtcmppipilihmkaaGreatDoor
