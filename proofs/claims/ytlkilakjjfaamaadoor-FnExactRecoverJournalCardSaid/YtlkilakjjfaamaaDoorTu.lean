/- Contracts: the reference's complete lines of a text, and what it recovers of a journal. -/
import Derived.Test.YtlkilakjjfaamaaDoorTt
import Derived.Deep.RegionLaw
namespace Go.Proofs.YtlkilakjjfaamaaDoor
open Go.RowKit Go.Sort
set_option linter.unusedSimpArgs false

theorem belowD (B : Nat) (w : World) (n : Nat) : Below B w (w.drewN n) := ⟨rfl, rfl, rfl, Nat.le_refl _, fun _ _ => rfl⟩
theorem own_base {w : World} {B B' e size n : Nat} {v : Value} {xs : List Value} (h : w.ownsRow B e size v n xs) (hB : B' ≤ B) : w.ownsRow B' e size v n xs := by
  refine ⟨h.1, ?_⟩
  rcases h.2 with h1 | ⟨g, cap, cur, h1, h2, h3⟩
  · exact .inl h1
  · exact .inr ⟨g, cap, cur, h1, Nat.le_trans hB h2, h3⟩
def lnsOf (s : ByteArray) : List (List UInt8) := (parts 10 [] s.data.toList).dropLast
theorem lnsOf_len (s : ByteArray) : (lnsOf s).length + 1 = (parts 10 [] s.data.toList).length := by
  unfold lnsOf
  have h := parts_ne 10 [] s.data.toList
  rw [List.length_dropLast]
  have : (parts 10 [] s.data.toList).length ≠ 0 := fun e => h (List.eq_nil_of_length_eq_zero e)
  omega

set_option maxHeartbeats 2000000 in
set_option maxRecDepth 20000 in
theorem l11Lines_any (s : ByteArray) (w : World) (hs : s.size ≤ 100000) :
    Calls Tryd.prog 13 #[.string s] w fun e w' => ∃ (A : Option Addr) (c : Nat) (x : ByteArray), e = .returned (.tuple #[.slice A (lnsOf s).length c, .string x]) ∧ Rd w' w'.heap.size A ((lnsOf s).map tx) ∧ Below w.heap.size w w' := by
  have CU := keep (l01Cut_any s w hs)
  have LL := lnsOf_len s
  have PL := parts_len 10 s.data.toList []
  rw [bytes_len] at PL
  go_enter Tryd.func13, Tryd.ntmps13
  go_wp2_with fail
  refine CU.out.mono ?_
  rintro e w1 ⟨A, c, rfl, ho, hb⟩
  have RD := keep (Rd.of_own ho)
  obtain ⟨g, rfl⟩ : ∃ g, A = some ⟨g, 0, none⟩ := by
    rcases ho.2 with ⟨_, h0⟩ | ⟨g, cap, cur, e, _⟩
    · omega
    · injection e with e1; exact ⟨g, e1⟩
  have hcap : (parts 10 [] s.data.toList).length ≤ c := by
    rcases ho.2 with ⟨_, h0⟩ | ⟨g, cap, cur, e, _, _, h1, _⟩
    · omega
    · injection e with e1 e2 e3; omega
  have hlast : w1.cell? ⟨g, (lnsOf s).length, none⟩ = some (.string (tx ((parts 10 [] s.data.toList)[(lnsOf s).length]'(by omega)))) := by
    have h := ho.cells (g := g) rfl (lnsOf s).length (.string (tx ((parts 10 [] s.data.toList)[(lnsOf s).length]'(by omega)))) (by
      unfold sv
      rw [List.map_map, List.getElem?_map, List.getElem?_eq_getElem (by omega)]; rfl)
    rwa [Addr.add_lit, Nat.zero_add] at h
  have R2 : Kept (Rd w1 w1.heap.size (some ⟨g, 0, none⟩) ((lnsOf s).map tx)) := keep (by
    intro h0
    have h1 : 0 < ((parts 10 [] s.data.toList).map tx).length := by rw [List.length_map]; omega
    obtain ⟨ad, e, hl, hc⟩ := RD.out h1
    refine ⟨ad, e, hl, fun j hj => ?_⟩
    rw [List.length_map] at hj
    have h := hc j (by rw [List.length_map]; omega)
    rw [h]
    simp only [List.getElem_map]
    congr 3
    unfold lnsOf
    rw [List.getElem_dropLast])
  have HB := keep hb
  generalize (parts 10 [] s.data.toList)[(lnsOf s).length]'(by omega) = z at *
  have hn : ((parts 10 [] s.data.toList).length : Int) = ((lnsOf s).length : Int) + 1 := by omega
  generalize (parts 10 [] s.data.toList).length = n at *
  generalize hm : (lnsOf s).length = m at *
  have HM := keep hm
  clear hm
  clear RD ho hb CU
  have w1' : IntKind.i64.wrap ((n : Int) - 1) = (m : Int) := by rw [IntWalk.i64_in _ ⟨by omega, by omega⟩]; omega
  have w2 : (n : Int) - 1 = (m : Int) := by omega
  go_wp2_with fail
  go_quiet (fail)
  go_wp2_with fail
  go_ret2
  exact ⟨some ⟨g, 0, none⟩, c, tx z, by rw [HM.out]; rfl, R2.out.below (belowD _ _ _), HB.out.trans (belowD _ _ _)⟩

set_option maxHeartbeats 8000000 in
set_option maxRecDepth 20000 in
theorem l11Recover_any (s : ByteArray) (w : World) (hs : s.size ≤ 12000) :
    Calls Tryd.prog 9 #[.string s] w fun e w' => ∃ (A : Option Addr) (c : Nat), e = .returned (.tuple #[.slice A (recov 0 (lnsOf s)).1.length c, .int .i64 ((recov 0 (lnsOf s)).2 : Int)]) ∧ w'.ownsRow w.heap.size 9 1 (.slice A (recov 0 (lnsOf s)).1.length c) (recov 0 (lnsOf s)).1.length (sv ((recov 0 (lnsOf s)).1.map tx)) ∧ Below w.heap.size w w' := by
  obtain ⟨i0, hi, hz0, hz1, hz2⟩ := info_parts infoString
  have HI := keep hi
  have HZ0 := keep hz0
  have HZ1 := keep hz1
  have HZ2 := keep hz2
  clear hi hz0 hz1 hz2
  have LI := keep (l11Lines_any s w (by omega))
  have LN := parts_len 10 s.data.toList []
  have LL := lnsOf_len s
  have LS := keep (show ∀ l ∈ lnsOf s, l.length ≤ 12000 from fun l hl => by
    have h := parts_sum 10 s.data.toList [] l (List.dropLast_subset _ hl)
    rw [bytes_len] at h
    simp at h
    omega)
  rw [bytes_len] at LN
  have hlen : (lnsOf s).length ≤ 12000 := by omega
  generalize lnsOf s = ls at *
  clear LN LL
  go_enter Tryd.func9, Tryd.ntmps9
  go_wp2_with fail
  refine LI.out.mono ?_
  rintro e w1 ⟨LA, lc, x, rfl, hR, hb⟩
  have RD := keep hR
  have B1 := keep hb
  clear hR hb LI hs
  go_wp2_with fail
  go_loopw [6, 7, 8, 9] (fun o cc nn t wr => ∃ (dn : List (List UInt8)) (ck0 : Int) (n i : Nat) (A : Option Addr) (c : Nat), o = .slice A dn.length c ∧ cc = .int .i64 ck0 ∧ nn = .int .i64 n ∧ t = .int .i64 i ∧ i ≤ ls.length ∧ dn.length ≤ i ∧ n ≤ 20000 * i ∧ (0 ≤ ck0 ∧ ck0 ≤ 65002) ∧ Kept (recov 0 ls = (dn ++ (recov ck0 (ls.drop i)).1, n + (recov ck0 (ls.drop i)).2)) ∧ Kept (wr.ownsRow w1.heap.size 9 1 (.slice A dn.length c) dn.length (sv (dn.map tx))) ∧ Kept (Rd wr w1.heap.size LA (ls.map tx)) ∧ Kept (Below w.heap.size w wr) ∧ w1.heap.size ≤ wr.heap.size) (fun _ _ _ t _ => ls.length - (intOf t).toNat)
  case atStart => exact ⟨[], 0, 0, 0, _, _, rfl, rfl, rfl, rfl, by omega, by simp, by omega, ⟨by omega, by omega⟩, keep (by simp), keep (World.ownsRow_made w1 #[] 0 (Nat.le_refl _) (by unfold maxLen; omega) rfl), keep (RD.out.below ((Below.refl _ w1).alloc (Nat.le_refl _) _)), keep (B1.out.alloc B1.out.size _), by simp⟩
  case round =>
    have hb1 := B1.out.size
    clear B1 RD
    obtain ⟨dn, ck0, n, i, A, c, rfl, rfl, rfl, rfl, hi, hdl, hn, ⟨hc0, hc1⟩, hR, ho, hrd, hb, hsz⟩ := hrel
    have hb0 := hb.out.size
    by_cases hlt : i < ls.length
    · have hltI : (i : Int) < (ls.length : Int) := by omega
      obtain ⟨ad, rfl, hal, hac⟩ := hrd.out (by rw [List.length_map]; omega)
      have hcell : wr.cell? (ad.add i) = some (.string (tx ls[i])) := by
        have h := hac i (by rw [List.length_map]; omega)
        rw [h, List.getElem_map]
      have hdr : ls.drop i = ls[i] :: ls.drop (i + 1) := List.drop_eq_getElem_cons hlt
      have hl12 := LS.out ls[i] (List.getElem_mem hlt)
      have R2 := keep (show recov 0 ls = (dn ++ (recov ck0 (ls[i] :: ls.drop (i + 1))).1, n + (recov ck0 (ls[i] :: ls.drop (i + 1))).2) by rw [← hdr]; exact hR.out)
      have TS := tx_size ls[i]
      clear hac hdr hR
      generalize ls[i] = l at *
      go_wp2_with fail
      go_loopw [10] (fun kk wq => ∃ j : Nat, j ≤ l.length ∧ kk = .int .i64 j ∧ wq = wr ∧ Kept (∀ q, q < j → l[q]? ≠ some 32)) (fun kk _ => l.length - (intOf kk).toNat)
      case atStart => exact ⟨0, by omega, rfl, rfl, keep (fun q h => by omega)⟩
      case round =>
        obtain ⟨j, hj, rfl, hwq, hno⟩ := hrel
        have hwq := hwq.symm
        subst hwq
        by_cases hend : j = l.length
        · have hjI : ¬ (j : Int) < ((tx l).size : Int) := by omega
          have hjE : ((j : Int) == ((tx l).size : Int)) = true := by rw [TS, hend]; simp
          have hF := fi_at l j hno.out hj (.inl hend)
          have R3 := keep (show recov 0 ls = (dn, n) by
            have h := R2.out
            rw [recov_no (show good ck0 l = false by unfold good; rw [hF, hend]; simp)] at h
            simpa using h)
          clear hno R2
          go_wp2_with fail
          go_ret2
          rw [R3.out]
          exact ⟨A, c, rfl, own_base ho.out hb1, hb.out⟩
        · have hj2 : j < (tx l).size := by omega
          have hjI : (j : Int) < ((tx l).size : Int) := by omega
          have hjE : ((j : Int) == ((tx l).size : Int)) = false := by rw [beq_eq_false_iff_ne]; omega
          have hbl : l[j]? = some ((tx l)[j]) := by
            rw [List.getElem?_eq_getElem (by omega)]
            congr 1
          have hby : ((tx l)[j].toNat : Int) < 256 := by have := (tx l)[j].toNat_lt; omega
          by_cases hm : (tx l)[j] = 32
          · have hq : (((tx l)[j].toNat : Int) != 32) = false := by rw [hm]; rfl
            rw [hm] at hbl
            have hF := fi_at l j hno.out hj (.inr hbl)
            have hjl : j < l.length := by omega
            have EX := keep (show (tx l).extract (j + 1) l.length = tx (l.drop (j + 1)) by
              rw [tx_piece, tx_bytes, List.take_of_length_le (by rw [List.length_drop]; omega)])
            have EX2 := keep (show (tx l).extract 0 j = tx (l.take j) by rw [tx_piece, tx_bytes, List.drop_zero, Nat.sub_zero])
            have CK := keep (fun w => l01Check_any ck0 (tx (l.drop (j + 1))) w (by rw [tx_size, List.length_drop]; omega) hc0 hc1)
            rw [tx_bytes] at CK
            obtain ⟨q0, q1⟩ := ck_bound ck0 (l.drop (j + 1)) hc0 hc1
            obtain ⟨cn, hcn⟩ : ∃ cn : Nat, ck ck0 (l.drop (j + 1)) = cn := ⟨(ck ck0 (l.drop (j + 1))).toNat, by omega⟩
            have DE := keep (fun w => l01Dec_any cn w (by omega))
            have R3 := R2.out
            rw [hcn] at CK
            clear hno hm hbl R2
            have hjT : j ≤ l.length := hj
            go_wp2_with fail
            rw [EX.out]
            refine (CK.out _).mono ?_
            rintro e w4 ⟨rfl, hw4⟩
            have hw4 := hw4.symm
            subst hw4
            go_wp2_with fail
            have cellD : Kept (wr.drew.cell? (ad.add i) = some (.string (tx l))) := keep hcell
            have hdl : wr.drew.heap.size = wr.heap.size := rfl
            go_cut [67] (fun s67 wx => s67 = .bool (!(l.take j == Lib.itoa (cn : Int))) ∧ Below wr.heap.size wr wx)
            case first =>
              go_region_law (first
                | (go_simp
                   go_at_call 15
                   refine (DE.out _).mono ?_
                   rintro e w5 ⟨rfl, hb5⟩
                   have B5 := keep (Below.trans (belowD wr.heap.size wr 1) hb5)
                   have cell5 := (B5.out.cell (p := ad.add i) (by rw [block_of_add]; omega)).trans hcell
                   clear hb5))
              all_goals
                go_wp2_with fail
                go_meet
                exact ⟨by rw [EX2.out, Lib.toList_data, tx_bytes], B5.out⟩
            case rest =>
              obtain ⟨rfl, hbc⟩ := hcut
              have BC := keep hbc
              have RC := keep (hrd.out.below (hbc.mono hsz))
              have OC := keep (owns_below ho.out hbc)
              have BW := keep (hb.out.trans (hbc.mono hb0))
              have hcc := (hbc.cell (p := ad.add i) (by rw [block_of_add]; omega)).trans hcell
              have hsc := hbc.size
              clear cellD hdl hbc hcell
              by_cases hg : l.take j = Lib.itoa (cn : Int)
              · have hg2 : (l.take j == Lib.itoa (cn : Int)) = true := by rw [hg]; simp
                rw [hg2]
                have R4 := keep (show recov 0 ls = ((dn ++ [l.drop (j + 1)]) ++ (recov cn (ls.drop (i + 1))).1, n + (l.length + 1) + (recov cn (ls.drop (i + 1))).2) by
                  rw [R3, recov_yes (show good ck0 l = true by unfold good; rw [hF, hcn, decide_eq_true hjl, hg]; simp), hF, hcn]
                  simp [Nat.add_assoc])
                clear R3 hF
                have hdn : dn.length ≤ 12000 := by omega
                have wn1 : IntKind.i64.wrap ((l.length : Int) + 1) = ((l.length + 1 : Nat) : Int) := IntWalk.i64_in _ ⟨by omega, by omega⟩
                have wn2 : IntKind.i64.wrap ((n : Int) + ((l.length + 1 : Nat) : Int)) = ((n + (l.length + 1) : Nat) : Int) := IntWalk.i64_in _ ⟨by omega, by omega⟩
                go_wp2_with (at_builtin; go_loud (refine wpList_append_own_at _ rfl _ _ 22 rfl w1.heap.size 9 i0 _ 1 16 Tryd.underlying22 HI.out HZ0.out HZ1.out HZ2.out rfl (by decide) (.slice A dn.length c) dn.length _ rfl (OC.out.alloc _) ⟨wc.heap.size, 0, none⟩ 1 1 [.string (tx (l.drop (j + 1)))] rfl rfl ?c1 ?c2 ?c3 ?c4 ?c5 ?_))
                case c1 => exact new_cell
                case c2 => intro u hu; simp only [List.mem_cons, List.not_mem_nil, or_false] at hu; subst hu; rfl
                case c3 => unfold maxLen; omega
                case c4 => omega
                case c5 => simp only [World.size_alloc]; omega
                intro v' w4 hown' hgrow _ _
                obtain ⟨g', cap', rfl, hB', hlt'⟩ := hown'.form (by omega)
                have hlo := fun g e => ((OC.out.alloc (.cells #[.string (tx (l.drop (j + 1)))] 9)).lt g e).1
                have hq4 : Below w1.heap.size (wc.alloc (.cells #[.string (tx (l.drop (j + 1)))] 9)) w4 := (Below.refl w1.heap.size _).grown hgrow (by simp only [World.size_alloc]; omega) (fun g e => hlo g e)
                have hz4 : Below w1.heap.size wc w4 := ((Below.refl w1.heap.size wc).alloc (by omega) _).trans hq4
                have hb4 := keep (BW.out.trans (hz4.mono hb1))
                have RC4 := keep (RC.out.below hz4)
                have hs4 := hz4.size
                have hcc4 := (hz4.cell (p := ad.add i) (by rw [block_of_add]; exact hal)).trans hcc
                have HO := keep hown'
                clear hown' hgrow hq4 hz4 hlo
                go_wp2_with fail
                go_roundw
                case rel => exact ⟨dn ++ [l.drop (j + 1)], cn, n + (l.length + 1), i + 1, _, _, by rw [List.length_append]; rfl, rfl, by go_num, by go_num, by omega, by rw [List.length_append]; show dn.length + 1 ≤ i + 1; omega, by omega, ⟨by omega, by omega⟩, R4, keep (by
                  have e := HO.out
                  rw [sv_snoc, List.length_append]
                  exact e), RC4, hb4, by omega⟩
                case measure => simp [intOf]; omega
              · have hg2 : (l.take j == Lib.itoa (cn : Int)) = false := by rw [beq_eq_false_iff_ne]; exact hg
                rw [hg2]
                have R4 := keep (show recov 0 ls = (dn, n) by
                  rw [R3, recov_no (show good ck0 l = false by unfold good; rw [hF, hcn, decide_eq_true hjl, Bool.true_and, beq_eq_false_iff_ne]; exact fun e => hg e.symm)]
                  simp)
                clear R3 hF
                go_wp2_with fail
                go_ret2
                rw [R4.out]
                exact ⟨A, c, rfl, own_base OC.out hb1, BW.out⟩
          · have hq : (((tx l)[j].toNat : Int) != 32) = true := by
              rw [bne_iff_ne]
              intro e
              exact hm (UInt8.toNat_inj.1 (by show (tx l)[j].toNat = 32; omega))
            have hno2 := keep (show ∀ q, q < j + 1 → l[q]? ≠ some 32 from fun q hq2 => by
              by_cases h : q < j
              · exact hno.out q h
              · obtain rfl : q = j := by omega
                rw [hbl]
                intro e
                exact hm (Option.some.inj e))
            clear hno hm hbl
            go_wp2_with fail
            go_roundw
            case rel => exact ⟨j + 1, by omega, by go_num, by first | trivial | rfl, hno2⟩
            case measure => simp [intOf]; omega
    · obtain rfl : i = ls.length := by omega
      have R3 := keep (show recov 0 ls = (dn, n) by
        have h := hR.out
        rw [List.drop_length] at h
        simpa [recov] using h)
      clear hR
      go_wp2_with fail
      go_ret2
      rw [R3.out]
      exact ⟨A, c, rfl, own_base ho.out hb1, hb.out⟩
end Go.Proofs.YtlkilakjjfaamaaDoor
