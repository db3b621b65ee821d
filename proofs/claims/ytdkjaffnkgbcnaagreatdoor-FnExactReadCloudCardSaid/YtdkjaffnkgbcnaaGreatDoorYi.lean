/- Contract: the cloud with a text, by the reference. No condition but the text's length. -/
import Derived.Test.YtdkjaffnkgbcnaaGreatDoorYh
import Derived.Test.YtdkjaffnkgbcnaaGreatDoorYk
namespace Go.Proofs.YtdkjaffnkgbcnaaGreatDoor
open Go.RowKit Go.Sort
set_option linter.unusedSimpArgs false
set_option linter.unusedVariables false

theorem l11RP_any (l : List UInt8) (w : World) (hmax : l.length ≤ 1100000) : Calls Tryz.prog 24 #[.string (tx l)] w fun e w' => e = .returned (.tuple (rpOut (readP l))) ∧ Below w.heap.size w w' := by
  by_cases n : (parts 58 [] l).length = 2
  · obtain ⟨P, O, hp⟩ := two_of n
    exact l11Read_two l P O w hmax hp
  · exact l11Read_else l w hmax n

set_option maxHeartbeats 40000000 in
set_option maxRecDepth 20000 in
theorem l11Read_three (l P0 P1 P2 : List UInt8) (w : World) (hmax : l.length ≤ 1100000) (hp : parts 59 [] l = [P0, P1, P2]) :
    Calls Tryz.prog 9 #[.string (tx l)] w (RC l w) := by
  have SP := keep (fun w => by have h2 := l01Cut_mk 59 (tx l) w (by have := tx_size l; omega); rw [tx_bytes, hp] at h2; exact h2)
  have PB : ∀ q ∈ parts 59 [] l, q.length ≤ 1100000 := fun q hq => by
    have h := parts_sum 59 l [] q hq
    simp at h
    omega
  rw [hp] at PB
  have L0 : P0.length ≤ 1100000 := PB P0 (by simp)
  have L1 : P1.length ≤ 1100000 := PB P1 (by simp)
  have L2 : P2.length ≤ 1100000 := PB P2 (by simp)
  have RL := keep (fun w => l01Numbers_any P0 w L0)
  have RN := keep (fun w => l01NRead_any P1 w L1)
  have RE := keep (readC_3 hp)
  have Q0 := keep (Has.made w 27 #[.int .i64 0, .int .i64 0, .slice none 0 0, .float .f32 0, .float .f32 0])
  have B1 := keep (show Below w.heap.size w (w.alloc (.cells #[.int .i64 0, .int .i64 0, .slice none 0 0, .float .f32 0, .float .f32 0] 27)) by go_grown)
  clear hp PB
  go_enter Tryz.func9, Tryz.ntmps9
  go_wp2_with fail
  refine (SP.out _).mono ?_
  rintro e w1 ⟨PA, pc0, rfl, ho, hb1⟩
  have Q1 := keep (Q0.out.after hb1)
  have B2 := keep (B1.out.trans (hb1.mono (by simp)))
  obtain ⟨g0, c0, f1, _, _⟩ := ho.form (by simp)
  injection f1 with f1 _ f2
  subst f1
  subst f2
  have s0 : w1.cell? ⟨g0, 0, none⟩ = some (.string (tx P0)) := by
    have h := ho.cells (g := g0) rfl 0 (.string (tx P0)) rfl
    rwa [Addr.add_lit] at h
  have OS := keep ho
  clear ho hb1 SP
  go_wp2_with fail
  refine (RL.out _).mono ?_
  rintro e w2 ⟨hg, hb2⟩
  have Q2 := keep (Q1.out.after hb2)
  have B3 := keep (B2.out.trans (hb2.mono B2.out.size))
  have OS2 := keep (owns_below OS.out hb2)
  have s1 : w2.cell? ⟨g0, 1, none⟩ = some (.string (tx P1)) := by
    have h := OS2.out.cells (g := g0) rfl 1 (.string (tx P1)) rfl
    rwa [Addr.add_lit] at h
  clear hb2 s0 RL
  rcases hg with ⟨gn, rfl⟩ | ⟨cs, A, c, gs, rfl, ho⟩
  · have NO := keep (show readC l = none by rw [RE.out, gn, mixC_1])
    clear gn
    go_wp2_with fail
    refine (RN.out _).mono ?_
    rintro e w3 ⟨hg3, hb3⟩
    have q3 := Q2.out.after hb3
    have B4 := keep (B3.out.trans (hb3.mono B3.out.size))
    have qc := q3.cells
    have qf := q3.free
    have qz := q3.in_heap
    clear hb3 q3 s1
    rcases hg3 with ⟨_, rfl⟩ | ⟨_, _, _, _, rfl, _⟩
    all_goals
      go_wp2_with fail
      refine bodyPost_ret (by simp [results, Tryz.results9, go_sem, qc, qz]; rfl) rfl (RC.no NO.out ?_)
      have hz := B4.out.size
      have hb := B4.out
      go_grown
  · have GS := keep gs
    clear gs
    go_wp2_with fail
    refine (RN.out _).mono ?_
    rintro e w3 ⟨hg3, hb3⟩
    have q3 := Q2.out.after hb3
    have B4 := keep (B3.out.trans (hb3.mono B3.out.size))
    have HO := keep (owns_below ho hb3)
    have OS3 := keep (owns_below OS2.out hb3)
    have qc := q3.cells
    have qf := q3.free
    have qz := q3.in_heap
    have Q3 := keep q3
    clear hb3 q3 ho s1
    rcases hg3 with ⟨gn, rfl⟩ | ⟨ns, A2, c2, gs2, rfl, ho2⟩
    · have NO := keep (show readC l = none by rw [RE.out, gn, mixC_2])
      clear gn
      go_wp2_with fail
      refine bodyPost_ret (by simp [results, Tryz.results9, go_sem, qc, qz]; rfl) rfl (RC.no NO.out ?_)
      have hz := B4.out.size
      have hb := B4.out
      go_grown
    · have GS2 := keep gs2
      have HO2 := keep ho2
      clear gs2 ho2
      by_cases n1 : cs.length = 2
      case neg =>
        have NO := keep (show readC l = none by rw [RE.out, GS.out, mixC_l1 _ _ _ n1])
        have q2 : ((cs.length : Int) != 2) = true := by rw [bne_iff_ne]; omega
        clear n1
        go_wp2_with fail
        refine bodyPost_ret (by simp [results, Tryz.results9, go_sem, qc, qz]; rfl) rfl (RC.no NO.out ?_)
        have hz := B4.out.size
        have hb := B4.out
        go_grown
      case pos =>
        by_cases n2 : ns.length = 2
        case neg =>
          have NO := keep (show readC l = none by rw [RE.out, GS2.out, mixC_l2 _ _ _ n2])
          have q2 : ((ns.length : Int) != 2) = true := by rw [bne_iff_ne]; omega
          have q1 : ((cs.length : Int) != 2) = false := by rw [n1]; rfl
          clear n1 n2
          go_wp2_with fail
          refine bodyPost_ret (by simp [results, Tryz.results9, go_sem, qc, qz]; rfl) rfl (RC.no NO.out ?_)
          have hz := B4.out.size
          have hb := B4.out
          go_grown
        case pos =>
          obtain ⟨x, y, rfl⟩ := two_of n1
          obtain ⟨m, k, rfl⟩ := two_of n2
          obtain ⟨g1, c1', f1, _, hg1z⟩ := HO.out.form (by simp)
          injection f1 with f1 _ f2
          subst f1
          subst f2
          obtain ⟨g2, c2', f1, _, hg2z⟩ := HO2.out.form (by simp)
          injection f1 with f1 _ f2
          subst f1
          subst f2
          have d1 : w3.cell? ⟨g1, 0, none⟩ = some (.int .i64 x) := by
            have h := HO.out.cells (g := g1) rfl 0 (.int .i64 x) rfl
            rwa [Addr.add_lit] at h
          have d2 : w3.cell? ⟨g1, 1, none⟩ = some (.int .i64 y) := by
            have h := HO.out.cells (g := g1) rfl 1 (.int .i64 y) rfl
            rwa [Addr.add_lit] at h
          have RCE := keep (show readC l = mixC (some [x, y]) (some [m, k]) (partsP P2) by rw [RE.out, GS.out, GS2.out])
          have k2 : (tx P2).toList = P2 := by rw [Lib.toList_data, tx_bytes]
          have nw := fun w => l11New_any x y w
          unfold cloudV at nw
          have NW := keep nw
          clear nw
          have BL : w.heap.size < w.heap.size + 1 := by omega
          have z3 := B4.out.size
          have hg0z := (OS3.out.lt g0 rfl).2
          have hg0b := (OS3.out.lt g0 rfl).1
          have hg2b := (HO2.out.lt g2 rfl).1
          rw [World.size_alloc] at hg0b
          have WL := Q3.out.in_heap
          clear n1 n2 GS GS2 qc qf qz
          go_wp2_with fail
          go_cut [9] (fun s9 wx => ∃ b g : Nat, s9 = .pointer (some ⟨b, 0, none⟩) ∧ w3.heap.size ≤ b ∧ b < wx.heap.size ∧ b ≠ g ∧ Kept (Has wx b 27 #[.int .i64 x, .int .i64 y, .slice (some ⟨g, 0, none⟩) 0 0, .float .f32 0, .float .f32 0]) ∧ Kept (wx.ownsRow (w.heap.size + 1) 43 4 (.slice (some ⟨g, 0, none⟩) 0 0) 0 []) ∧ Kept (Below w3.heap.size w3 wx))
          case first =>
            clear HO HO2 OS3
            go_region_law (first
              | (go_simp
                 go_at_call 23
                 refine (NW.out _).mono ?_
                 rintro e w6 ⟨rfl, hown6, hb6, hz6⟩
                 have HB6 := keep hb6
                 have HO6 := keep hown6
                 (first
                   | (have q6 : Has w6 w3.heap.size 27 #[.int .i64 0, .int .i64 0, .slice none 0 0, .float .f32 0, .float .f32 0] := by
                        refine Has.after ?_ hb6
                        exact Has.made w3 _ _
                      have c6 := q6.cells
                      have f6 := q6.free
                      have Q6 := keep q6
                      clear q6)
                   | skip)
                 clear hb6 hown6))
            all_goals
              go_wp2_with fail
              go_meet
              first
                | (have Qx := Q6.out
                   have e4 : (w3.alloc (.cells #[.int .i64 0, .int .i64 0, .slice none 0 0, .float .f32 0, .float .f32 0] 27)).drew.heap.size = w3.heap.size + 1 := World.size_alloc ..
                   have z6 := hz6
                   rw [e4] at z6
                   have o6 := HO6.out
                   rw [e4] at o6
                   have b6 := HB6.out
                   have b1 : Below w3.heap.size w3 w6 := (((Below.refl w3.heap.size w3).alloc (Nat.le_refl _) (.cells #[.int .i64 0, .int .i64 0, .slice none 0 0, .float .f32 0, .float .f32 0] 27)).drew).trans (b6.mono (by rw [e4]; omega))
                   exact ⟨w3.heap.size, w3.heap.size + 1 + 1, rfl, Nat.le_refl _, (((((Qx.written 0 _).written 1 _).written 2 _).written 3 _).written 4 _).in_heap, by omega, keep (((((Qx.written 0 _).written 1 _).written 2 _).written 3 _).written 4 _), keep (own_base (ownsRow_setCell_below (a := ⟨w3.heap.size, 4, none⟩) (ownsRow_setCell_below (a := ⟨w3.heap.size, 3, none⟩) (ownsRow_setCell_below (a := ⟨w3.heap.size, 2, none⟩) (ownsRow_setCell_below (a := ⟨w3.heap.size, 1, none⟩) (ownsRow_setCell_below (a := ⟨w3.heap.size, 0, none⟩) o6 (by show w3.heap.size < _; omega) _) (by show w3.heap.size < _; omega) _) (by show w3.heap.size < _; omega) _) (by show w3.heap.size < _; omega) _) (by show w3.heap.size < _; omega) _) (by omega)), keep (((((b1.setCell (p := ⟨w3.heap.size, 0, none⟩) (Nat.le_refl _) _).setCell (p := ⟨w3.heap.size, 1, none⟩) (Nat.le_refl _) _).setCell (p := ⟨w3.heap.size, 2, none⟩) (Nat.le_refl _) _).setCell (p := ⟨w3.heap.size, 3, none⟩) (Nat.le_refl _) _).setCell (p := ⟨w3.heap.size, 4, none⟩) (Nat.le_refl _) _)⟩)
                | (fail_if_success (have Qx := Q6.out)
                   have z6 : w3.heap.size + 2 ≤ w6.heap.size := hz6
                   exact ⟨w6.heap.size, w3.heap.size + 1, rfl, by omega, by rw [World.size_alloc]; omega, by omega, keep (Has.made w6 _ _), keep (own_base (HO6.out.alloc _) (show w.heap.size + 1 ≤ w3.heap.size + 1 by omega)), keep (((Below.refl w3.heap.size w3).drew.trans HB6.out).alloc (by omega) _)⟩)
          case rest =>
            obtain ⟨b, g9, rfl, hbw, hbz, hbg, hQ4, hO4, hB4⟩ := hcut
            have BLb : w.heap.size < b := by omega
            have R4a := keep (Q3.out.after hB4.out)
            have OS4a := keep (owns_below OS3.out hB4.out)
            have HO2a := keep (owns_below HO2.out hB4.out)
            have B5a := keep (B4.out.trans (hB4.out.mono B4.out.size))
            have kc := hQ4.out.cells
            have kf := hQ4.out.free
            have d3 : wc.cell? ⟨g2, 0, none⟩ = some (.float .f32 m) := by
              have h := HO2a.out.cells (g := g2) rfl 0 (.float .f32 m) rfl
              rwa [Addr.add_lit] at h
            have d4 : wc.cell? ⟨g2, 1, none⟩ = some (.float .f32 k) := by
              have h := HO2a.out.cells (g := g2) rfl 1 (.float .f32 k) rfl
              rwa [Addr.add_lit] at h
            have nb2 : ¬ g2 = b := by omega
            have ne9 : (Value.slice (some ⟨g9, 0, none⟩) 0 0).ownBlock ≠ some b := fun e => hbg (show g9 = b from Option.some.inj e).symm
            have ne0 : (Value.slice (some ⟨g0, 0, none⟩) [P0, P1, P2].length pc0).ownBlock ≠ some b := fun e => absurd (show g0 = b from Option.some.inj e) (by omega)
            have NE5 := keep ne9
            have Qd := keep (show Has ((wc.setCell ⟨b, 3, none⟩ (.float .f32 m)).setCell ⟨b, 4, none⟩ (.float .f32 k)) b 27 #[.int .i64 x, .int .i64 y, .slice (some ⟨g9, 0, none⟩) 0 0, .float .f32 m, .float .f32 k] from (hQ4.out.written 3 (.float .f32 m)).written 4 (.float .f32 k))
            have Od := keep (ownsRow_setCell_other (a := ⟨b, 4, none⟩) (ownsRow_setCell_other (a := ⟨b, 3, none⟩) hO4.out ne9 (.float .f32 m)) ne9 (.float .f32 k))
            have Rd := keep ((R4a.out.elsewhere (p := ⟨b, 3, none⟩) (by show w.heap.size ≠ b; omega) (.float .f32 m)).elsewhere (p := ⟨b, 4, none⟩) (by show w.heap.size ≠ b; omega) (.float .f32 k))
            have OSd := keep (ownsRow_setCell_other (a := ⟨b, 4, none⟩) (ownsRow_setCell_other (a := ⟨b, 3, none⟩) OS4a.out ne0 (.float .f32 m)) ne0 (.float .f32 k))
            have Bd := keep ((B5a.out.setCell (p := ⟨b, 3, none⟩) (Nat.le_of_lt BLb) (.float .f32 m)).setCell (p := ⟨b, 4, none⟩) (Nat.le_of_lt BLb) (.float .f32 k))
            clear ne9 ne0 hQ4 hO4 hB4 R4a OS4a HO2a B5a Q0 Q1 Q2 Q3 B1 B2 B3 B4 OS OS2 OS3 HO HO2 RN NW
            go_upto_region 11 with fail
            clear kc kf d1 d2 d3 d4 nb2 hbz
            generalize (wc.setCell ⟨b, 3, none⟩ (.float .f32 m)).setCell ⟨b, 4, none⟩ (.float .f32 k) = wd at *
            have hbz := Qd.out.in_heap
            have s2 : wd.cell? ⟨g0, 2, none⟩ = some (.string (tx P2)) := by
              have h := OSd.out.cells (g := g0) rfl 2 (.string (tx P2)) rfl
              rwa [Addr.add_lit] at h
            by_cases hnone : P2 = [110, 111, 110, 101]
            case pos =>
              have hq : (P2 == [110, 111, 110, 101]) = true := by rw [hnone]; rfl
              have PSE := keep (show partsP P2 = some [] by unfold partsP; rw [if_pos hnone])
              have RCE2 := keep (show readC l = mixC (some [x, y]) (some [m, k]) (some []) by rw [RCE.out, PSE.out])
              clear RCE hnone PSE
              have RCE := RCE2
              clear RCE2
              have V := l05Give_ok (w.heap.size + 1) (some ⟨g9, 0, none⟩) 0 0 ([] : List PD) x y m k wd Od.out rfl (by simp)
              unfold cloudV at V
              have kc := Qd.out.cells
              have kf := Qd.out.free
              cases hok : okCloud x y ([] : List PD).length m k
              all_goals
                rw [hok] at V
                have V1 := keep V
                clear V
                have RES := keep (show readC l = if okCloud x y ([] : List PD).length m k then some (x, y, m, k, ([] : List PD)) else none from by rw [RCE.out, mixC_all])
                rw [hok] at RES
                clear hok
                go_wp2_with fail
                refine V1.out.mono ?_
                rintro e w9 ⟨rfl, hb9⟩
                have q9 := Rd.out.after hb9
                have B9 := keep (Bd.out.trans (hb9.mono Bd.out.size))
                have O9 := keep (owns_below Od.out hb9)
                have Q9 := keep q9
                have qc := q9.cells
                have qf := q9.free
                have qz := q9.in_heap
                clear hb9 q9 kc kf
                go_wp2_with fail
              · refine bodyPost_ret (by simp [results, Tryz.results9, go_sem, qc, qz]; rfl) rfl (RC.no RES.out ?_)
                have hz := B9.out.size
                have hb := B9.out
                go_grown
              · refine bodyPost_ret (by simp [results, Tryz.results9, go_sem, qc, qz]; rfl) rfl (RC.yes RES.out (own_base ?_ (Nat.le_succ _)) ?_)
                · exact ownsRow_setCell_below (a := ⟨w.heap.size, 4, none⟩) (ownsRow_setCell_below (a := ⟨w.heap.size, 3, none⟩) (ownsRow_setCell_below (a := ⟨w.heap.size, 2, none⟩) (ownsRow_setCell_below (a := ⟨w.heap.size, 1, none⟩) (ownsRow_setCell_below (a := ⟨w.heap.size, 0, none⟩) O9.out BL _) BL _) BL _) BL _) BL _
                · have hz := B9.out.size
                  have hb := B9.out
                  go_grown
            case neg =>
              have hq : (P2 == [110, 111, 110, 101]) = false := by rw [beq_eq_false_iff_ne]; exact hnone
              have PSE := keep (show partsP P2 = allOf readPD (parts 47 [] P2) by unfold partsP; rw [if_neg hnone])
              have SP2 := keep (by have h2 := l01Cut_mk 47 (tx P2) wd (by have := tx_size P2; omega); rw [tx_bytes] at h2; exact h2)
              have PS := parts_ne 47 [] P2
              have PS2 := keep (show ∀ q ∈ parts 47 [] P2, q.length ≤ 1100000 from fun q hq => by
                have h := parts_sum 47 P2 [] q hq
                simp at h
                omega)
              have PLN := parts_len 47 P2 []
              clear hnone
              generalize parts 47 [] P2 = ps at *
              go_wp2_with fail
              refine SP2.out.mono ?_
              rintro e w5 ⟨PA, pc, rfl, ho, hb5⟩
              have Q5 := keep (Qd.out.after hb5)
              have R5 := keep (Rd.out.after hb5)
              have OW5 := keep (owns_below Od.out hb5)
              have B5 := keep (Bd.out.trans (hb5.mono Bd.out.size))
              have OP5 := keep (own_base ho (B' := b + 1) (by omega))
              obtain ⟨g, pc2, e1, _, _⟩ := ho.form (by have : ps.length ≠ 0 := fun e => PS (List.eq_nil_of_length_eq_zero e); omega)
              injection e1 with e1 e2 e3
              subst e1
              subst e3
              clear hb5 ho SP2 e2 s2 Qd Rd Od OSd Bd
              go_wp2_with fail
              go_loopw [76] (fun t wr => ∃ (dn : List PD) (i : Nat) (A : Option Addr) (c : Nat), t = .int .i64 i ∧ i ≤ ps.length ∧ dn.length = i ∧ Kept (allOf readPD ps = (allOf readPD (ps.drop i)).map (dn ++ ·)) ∧ Kept (Has wr b 27 #[.int .i64 x, .int .i64 y, .slice A dn.length c, .float .f32 m, .float .f32 k]) ∧ Kept (Has wr w.heap.size 27 #[.int .i64 0, .int .i64 0, .slice none 0 0, .float .f32 0, .float .f32 0]) ∧ Kept (wr.ownsRow (w.heap.size + 1) 43 4 (.slice A dn.length c) dn.length (psCells dn)) ∧ Kept ((Value.slice A dn.length c).ownBlock ≠ some b) ∧ Kept (dn.all PD.ok = true) ∧ Kept (wr.ownsRow (b + 1) 9 1 (.slice (some ⟨g, 0, none⟩) ps.length pc) ps.length (sv (ps.map tx))) ∧ Kept (Below w.heap.size w wr)) (fun t _ => ps.length - (intOf t).toNat)
              case atStart => exact ⟨[], 0, _, _, rfl, by omega, rfl, keep (by cases h : allOf readPD ps <;> simp [h]), Q5, R5, OW5, NE5, keep rfl, OP5, B5⟩
              case round =>
                clear Q5 R5 OW5 OP5 B5 NE5
                obtain ⟨dn, i, A, c, rfl, hi, hdl, hR, hQ, hRz, ho, hne0, hall, hp, hb⟩ := hrel
                have hb0 := hb.out.size
                by_cases hlt : i < ps.length
                · have hltI : (i : Int) < (ps.length : Int) := by omega
                  have hcell : wr.cell? ⟨g, i, none⟩ = some (.string (tx ps[i])) := by
                    have h := hp.out.cells (g := g) rfl i (.string (tx ps[i])) (by
                      unfold sv
                      rw [List.map_map, List.getElem?_map, List.getElem?_eq_getElem hlt]; rfl)
                    rwa [Addr.add_lit, Nat.zero_add] at h
                  have hdr : ps.drop i = ps[i] :: ps.drop (i + 1) := List.drop_eq_getElem_cons hlt
                  have R2 := keep (show allOf readPD ps = (allOf readPD (ps[i] :: ps.drop (i + 1))).map (dn ++ ·) by rw [← hdr]; exact hR.out)
                  have RPw := keep (l11RP_any ps[i] wr (PS2.out _ (List.getElem_mem hlt)))
                  clear hdr hR
                  generalize ps[i] = pp at *
                  cases hg : readPD pp with
                  | none =>
                    have RP2 := RPw.out
                    rw [readPD_none hg] at RP2
                    have RP3 := keep RP2
                    have NO := keep (show readC l = none by rw [RCE.out, PSE.out, R2.out, allOf_none hg]; exact mixC_3 _ _)
                    clear RP2 RPw R2 hg hdl
                    go_wp2_with fail
                    refine RP3.out.mono ?_
                    rintro e w6 ⟨rfl, hb6⟩
                    have q6 := hRz.out.after hb6
                    have B6 := keep (hb.out.trans (hb6.mono hb0))
                    have Q6 := keep q6
                    clear hb6 q6 hcell
                    have q7 := Q6.out.beside (.cells #[.complex .f32 0 0, .complex .f32 0 0, .float .f32 0, .float .f32 0] 43)
                    have B7 := keep (B6.out.alloc B6.out.size (.cells #[.complex .f32 0 0, .complex .f32 0 0, .float .f32 0, .float .f32 0] 43))
                    have qc := q7.cells
                    have qf := q7.free
                    have qz := q7.in_heap
                    go_wp2_with fail
                    refine bodyPost_ret (by simp [results, Tryz.results9, go_sem, qc, qz]; rfl) rfl (RC.no NO.out ?_)
                    have hz := B7.out.size
                    have hb := B7.out
                    go_grown
                  | some p =>
                    have RP2 := RPw.out
                    rw [(readPD_some hg).1] at RP2
                    have RP3 := keep RP2
                    have POK := keep (readPD_some hg).2
                    have R3 := keep (show allOf readPD ps = (allOf readPD (ps.drop (i + 1))).map ((dn ++ [p]) ++ ·) by
                      rw [R2.out, allOf_some hg, Option.map_map]
                      congr 1
                      funext q
                      simp)
                    clear RP2 RPw R2 hg
                    have hdn : dn.length ≤ 1100001 := by omega
                    have HD := keep hdl
                    clear hdl
                    obtain ⟨i0, hi, hz0, hz1, hz2⟩ := info_parts infoParticle
                    have HI := keep hi
                    have HZ0 := keep hz0
                    have HZ1 := keep hz1
                    have HZ2 := keep hz2
                    clear hi hz0 hz1 hz2
                    go_wp2_with fail
                    refine RP3.out.mono ?_
                    rintro e w6 ⟨rfl, hb6⟩
                    have B6 := keep (hb.out.trans (hb6.mono hb0))
                    have b6z := B6.out.size
                    have H5 := keep (hQ.out.after hb6)
                    have H2 := keep (hRz.out.after hb6)
                    have O6 := keep (owns_below ho.out hb6)
                    have P6 := keep (owns_below hp.out hb6)
                    have c5 := H5.out.cells
                    have f5 := H5.out.free
                    have z5 := H5.out.in_heap
                    clear hb6 hcell ho hp hQ hRz hb
                    go_wp2_with (at_builtin; go_loud (refine wpList_append_own_at _ rfl _ _ 24 rfl (w.heap.size + 1) 43 i0 _ 4 24 Tryz.underlying24 HI.out HZ0.out HZ1.out HZ2.out rfl (by decide) (.slice A dn.length c) dn.length _ rfl ((O6.out.alloc _).alloc _) ⟨w6.heap.size + 1, 0, none⟩ 1 1 p.cells rfl rfl ?c1 ?c2 ?c3 ?c4 ?c5 ?_))
                    case c1 =>
                      have r := Has.made (w6.alloc (.cells #[.complex .f32 p.a p.b, .complex .f32 p.c p.d, .float .f32 p.q, .float .f32 p.m] 43)) 43 #[.complex .f32 p.a p.b, .complex .f32 p.c p.d, .float .f32 p.q, .float .f32 p.m]
                      rw [World.size_alloc] at r
                      intro j u hj
                      exact four_new r j u hj
                    case c2 =>
                      intro u hu
                      simp only [PD.cells, List.mem_cons, List.not_mem_nil, or_false] at hu
                      rcases hu with rfl | rfl | rfl | rfl <;> rfl
                    case c3 => unfold maxLen; omega
                    case c4 => omega
                    case c5 => first | omega | (simp only [World.size_alloc]; omega)
                    intro v' w7 hown' hgrow _ hblk
                    obtain ⟨g', cap', rfl, hB', hlt'⟩ := hown'.form (by omega)
                    have hL := O6.out.lt
                    have hne : (Value.slice A dn.length c).ownBlock ≠ some w.heap.size := fun e => by have := hL _ e; omega
                    have NE := keep (show (Value.slice (some ⟨g', 0, none⟩) (dn.length + 1) cap').ownBlock ≠ some b from fun e => by
                      rcases hblk with h1 | h1
                      · rw [h1] at e; exact hne0.out e
                      · have h3 := Option.some.inj (h1.symm.trans e)
                        first
                          | omega
                          | (simp only [World.size_alloc] at h3
                             omega))
                    clear hblk
                    have p5 := Has.grown ((H5.out.beside (.cells #[.complex .f32 p.a p.b, .complex .f32 p.c p.d, .float .f32 p.q, .float .f32 p.m] 43)).beside (.cells #[.complex .f32 p.a p.b, .complex .f32 p.c p.d, .float .f32 p.q, .float .f32 p.m] 43)) hgrow hne0.out
                    have P2 := keep (Has.grown ((H2.out.beside (.cells #[.complex .f32 p.a p.b, .complex .f32 p.c p.d, .float .f32 p.q, .float .f32 p.m] 43)).beside (.cells #[.complex .f32 p.a p.b, .complex .f32 p.c p.d, .float .f32 p.q, .float .f32 p.m] 43)) hgrow hne)
                    have B7 := keep (((B6.out.alloc b6z (.cells #[.complex .f32 p.a p.b, .complex .f32 p.c p.d, .float .f32 p.q, .float .f32 p.m] 43)).alloc (by rw [World.size_alloc]; omega) (.cells #[.complex .f32 p.a p.b, .complex .f32 p.c p.d, .float .f32 p.q, .float .f32 p.m] 43)).grown hgrow (by simp; omega) (fun d e => by have := hL d e; omega))
                    have HP := keep (((P6.out.alloc (.cells #[.complex .f32 p.a p.b, .complex .f32 p.c p.d, .float .f32 p.q, .float .f32 p.m] 43)).alloc (.cells #[.complex .f32 p.a p.b, .complex .f32 p.c p.d, .float .f32 p.q, .float .f32 p.m] 43)).kept hgrow (kinds_ne P6.out O6.out (by decide)))
                    have cc5 := p5.cells
                    have ff5 := p5.free
                    have P5 := keep p5
                    have OW := keep hown'
                    clear hown' hgrow p5 hL hne c5 f5 z5
                    go_wp2_with fail
                    go_roundw
                    case rel =>
                      exact ⟨dn ++ [p], i + 1, _, _, by go_num, by omega, by rw [List.length_append, HD.out]; rfl, R3, keep (by rw [List.length_append]; exact P5.out.written 2 _), keep (P2.out.elsewhere (by have := BLb; show w.heap.size ≠ b; omega) _), keep (by
                        have e := ownsRow_setCell_other (a := ⟨b, 2, none⟩) OW.out NE.out (.slice (some ⟨g', 0, none⟩) (dn.length + 1) cap')
                        rw [List.length_append, psCells_app]
                        exact e), keep (by rw [List.length_append]; exact NE.out), keep (by rw [List.all_append, hall.out]; simp [POK.out]), keep (ownsRow_setCell_below (a := ⟨b, 2, none⟩) HP.out (by show b < b + 1; omega) _), keep (B7.out.setCell (Nat.le_of_lt BLb) _)⟩
                    case measure => simp [intOf]; omega
                · have hlt2 : ¬ (i : Int) < (ps.length : Int) := by omega
                  have R3 := keep (show allOf readPD ps = some dn by
                    have h := hR.out
                    rw [List.drop_eq_nil_of_le (by omega)] at h
                    rw [h]; simp [allOf])
                  have RCE2 := keep (show readC l = mixC (some [x, y]) (some [m, k]) (some dn) by rw [RCE.out, PSE.out, R3.out])
                  have hdn : dn.length ≤ 1100001 := by omega
                  clear R3 hR RCE hdl hi hlt
                  have RCE := RCE2
                  clear RCE2
                  have V := l05Give_ok (w.heap.size + 1) (A) dn.length c dn x y m k wr ho.out hall.out (by omega)
                  unfold cloudV at V
                  have kc := hQ.out.cells
                  have kf := hQ.out.free
                  cases hok : okCloud x y dn.length m k
                  all_goals
                    rw [hok] at V
                    have V1 := keep V
                    clear V
                    have RES := keep (show readC l = if okCloud x y dn.length m k then some (x, y, m, k, dn) else none from by rw [RCE.out, mixC_all])
                    rw [hok] at RES
                    clear hok
                    go_wp2_with fail
                    refine V1.out.mono ?_
                    rintro e w9 ⟨rfl, hb9⟩
                    have q9 := hRz.out.after hb9
                    have B9 := keep (hb.out.trans (hb9.mono hb.out.size))
                    have O9 := keep (owns_below ho.out hb9)
                    have Q9 := keep q9
                    have qc := q9.cells
                    have qf := q9.free
                    have qz := q9.in_heap
                    clear hb9 q9 kc kf
                    go_wp2_with fail
                  · refine bodyPost_ret (by simp [results, Tryz.results9, go_sem, qc, qz]; rfl) rfl (RC.no RES.out ?_)
                    have hz := B9.out.size
                    have hb := B9.out
                    go_grown
                  · refine bodyPost_ret (by simp [results, Tryz.results9, go_sem, qc, qz]; rfl) rfl (RC.yes RES.out (own_base ?_ (Nat.le_succ _)) ?_)
                    · exact ownsRow_setCell_below (a := ⟨w.heap.size, 4, none⟩) (ownsRow_setCell_below (a := ⟨w.heap.size, 3, none⟩) (ownsRow_setCell_below (a := ⟨w.heap.size, 2, none⟩) (ownsRow_setCell_below (a := ⟨w.heap.size, 1, none⟩) (ownsRow_setCell_below (a := ⟨w.heap.size, 0, none⟩) O9.out BL _) BL _) BL _) BL _) BL _
                    · have hz := B9.out.size
                      have hb := B9.out
                      go_grown

theorem l11ReadC_else (l : List UInt8) (w : World) (hmax : l.length ≤ 1100000) (hn : (parts 59 [] l).length ≠ 3) :
    Calls Tryz.prog 9 #[.string (tx l)] w (RC l w) := by
  have SP := keep (fun w => by have h2 := l01Cut_mk 59 (tx l) w (by have := tx_size l; omega); rw [tx_bytes] at h2; exact h2)
  have PL := parts_len 59 l []
  have NO := keep (readC_else hn)
  generalize parts 59 [] l = ps at *
  have hq : ((ps.length : Int) != 3) = true := by rw [bne_iff_ne]; omega
  have Q0 := keep (Has.made w 27 #[.int .i64 0, .int .i64 0, .slice none 0 0, .float .f32 0, .float .f32 0])
  have B1 := keep (show Below w.heap.size w (w.alloc (.cells #[.int .i64 0, .int .i64 0, .slice none 0 0, .float .f32 0, .float .f32 0] 27)) by go_grown)
  clear hn
  go_enter Tryz.func9, Tryz.ntmps9
  go_wp2_with fail
  refine (SP.out _).mono ?_
  rintro e w1 ⟨A, c, rfl, ho, hb1⟩
  have q1 := Q0.out.after hb1
  have B2 := keep (B1.out.trans (hb1.mono (by simp)))
  have qc := q1.cells
  have qf := q1.free
  have qz := q1.in_heap
  clear hb1 q1 ho
  go_wp2_with fail
  refine bodyPost_ret (by simp [results, Tryz.results9, go_sem, qc, qz]; rfl) rfl (RC.no NO.out ?_)
  have hz := B2.out.size
  have hb := B2.out
  go_grown

theorem l11Read_any (l : List UInt8) (w : World) (hmax : l.length ≤ 1100000) : Calls Tryz.prog 9 #[.string (tx l)] w (RC l w) := by
  by_cases n : (parts 59 [] l).length = 3
  · obtain ⟨P0, P1, P2, hp⟩ := three_of n
    exact l11Read_three l P0 P1 P2 w hmax hp
  · exact l11ReadC_else l w hmax n
end Go.Proofs.YtdkjaffnkgbcnaaGreatDoor
