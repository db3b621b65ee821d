/- Contract: the specification's reading of words. -/
import Derived.Test.YtdkjaffnkgbcnaaGreatDoorUj
namespace Go.Proofs.YtdkjaffnkgbcnaaGreatDoor
open Go.RowKit Go.Sort
set_option linter.unusedSimpArgs false
set_option linter.unusedVariables false

theorem goodw_len {l : List UInt8} (h : l.length ≠ 8) : goodw l = none := by
  unfold goodw hv8
  rw [if_neg h]; rfl

set_option maxHeartbeats 8000000 in
set_option maxRecDepth 20000 in
theorem l01NRead_any (l : List UInt8) (w : World) (hmax : l.length ≤ 1100000) :
    Calls Tryz.prog 22 #[.string (tx l)] w fun e w' => GRs goodw fvw 25 w.heap.size l e w' ∧ Below w.heap.size w w' := by
  obtain ⟨i0, hi, hz0, hz1, hz2⟩ := info_parts infoF32
  have HI := keep hi
  have HZ0 := keep hz0
  have HZ1 := keep hz1
  have HZ2 := keep hz2
  clear hi hz0 hz1 hz2
  have TS := tx_size l
  have k2 : (tx l).toList = l := by rw [Lib.toList_data, tx_bytes]
  have CU := keep (fun w => l01Cut_mk 44 (tx l) w (by omega))
  rw [tx_bytes] at CU
  clear TS
  have PL := parts_len 44 l []
  by_cases hnone : l = [110, 111, 110, 101]
  · have G0 := keep (show goodL goodw l = some [] by unfold goodL; rw [if_pos hnone])
    have hq : (l == [110, 111, 110, 101]) = true := by rw [hnone]; rfl
    clear hnone PL hmax
    go_enter Tryz.func22, Tryz.ntmps22
    go_wp2_with fail
    go_ret2
    exact ⟨.inr ⟨[], _, 0, G0.out, rfl, World.ownsRow_made w #[] 0 (Nat.le_refl _) (by unfold maxLen; omega) rfl⟩, by go_grown⟩
  · have hq : (l == [110, 111, 110, 101]) = false := by rw [beq_eq_false_iff_ne]; exact hnone
    by_cases hbig : 256 < (parts 44 [] l).length
    · have G0 := keep (show goodL goodw l = none by unfold goodL; rw [if_neg hnone, if_pos hbig])
      have hbigI : (256 : Int) < ((parts 44 [] l).length : Int) := by omega
      clear hnone
      go_enter Tryz.func22, Tryz.ntmps22
      go_wp2_with fail
      refine (CU.out _).mono ?_
      rintro e w1 ⟨A, c, rfl, ho, hb⟩
      have HB := keep ((show Below w.heap.size w _ by go_grown).trans (hb.mono (by simp)))
      clear hb ho
      go_wp2_with fail
      go_ret2
      exact ⟨.inl ⟨G0.out, rfl⟩, HB.out⟩
    · have G0 := keep (show goodL goodw l = allOf goodw (parts 44 [] l) by unfold goodL; rw [if_neg hnone, if_neg hbig])
      have hbigI : ¬ (256 : Int) < ((parts 44 [] l).length : Int) := by omega
      clear hnone
      have PS := parts_ne 44 [] l
      generalize parts 44 [] l = ps at *
      have PLs : ps.length ≤ 256 := by omega
      clear PL hmax hbig
      go_enter Tryz.func22, Tryz.ntmps22
      go_wp2_with fail
      refine (CU.out _).mono ?_
      rintro e w1 ⟨PA, pc, rfl, ho, hb⟩
      have OW := keep (owns_below (World.ownsRow_made w (e := 25) (size := 1) #[] 0 (Nat.le_refl _) (by unfold maxLen; omega) rfl) hb)
      have OP := keep (own_base ho (B' := w.heap.size) (by simp))
      have HB := keep ((show Below w.heap.size w _ by go_grown).trans (hb.mono (by simp)))
      obtain ⟨g, pc2, e1, _, _⟩ := ho.form (by have : ps.length ≠ 0 := fun e => PS (List.eq_nil_of_length_eq_zero e); omega)
      injection e1 with e1 e2 e3
      subst e1
      subst e3
      clear hb ho CU
      go_wp2_with fail
      go_loopw [4, 6] (fun o t wr => ∃ (dn : List Nat) (i : Nat) (A : Option Addr) (c : Nat), o = .slice A dn.length c ∧ t = .int .i64 i ∧ i ≤ ps.length ∧ dn.length = i ∧ Kept (allOf goodw ps = (allOf goodw (ps.drop i)).map (dn ++ ·)) ∧ Kept (wr.ownsRow w.heap.size 25 1 (.slice A dn.length c) dn.length (dn.map fvw)) ∧ Kept (wr.ownsRow w.heap.size 9 1 (.slice (some ⟨g, 0, none⟩) ps.length pc) ps.length (sv (ps.map tx))) ∧ Kept (Below w.heap.size w wr)) (fun _ t _ => ps.length - (intOf t).toNat)
      case atStart => exact ⟨[], 0, _, _, rfl, rfl, by omega, rfl, keep (by cases h : allOf goodw ps <;> simp [h]), OW, OP, HB⟩
      case round =>
        clear OW OP HB
        obtain ⟨dn, i, A, c, rfl, rfl, hi, hdl, hR, ho, hp, hb⟩ := hrel
        have hb0 := hb.out.size
        by_cases hlt : i < ps.length
        · have hltI : (i : Int) < (ps.length : Int) := by omega
          have hcell : wr.cell? ⟨g, i, none⟩ = some (.string (tx ps[i])) := by
            have h := hp.out.cells (g := g) rfl i (.string (tx ps[i])) (by
              unfold sv
              rw [List.map_map, List.getElem?_map, List.getElem?_eq_getElem hlt]; rfl)
            rwa [Addr.add_lit, Nat.zero_add] at h
          have hdr : ps.drop i = ps[i] :: ps.drop (i + 1) := List.drop_eq_getElem_cons hlt
          have R2 := keep (show allOf goodw ps = (allOf goodw (ps[i] :: ps.drop (i + 1))).map (dn ++ ·) by rw [← hdr]; exact hR.out)
          have TP := tx_size ps[i]
          clear hdr hR
          generalize ps[i] = p at *
          by_cases h8 : p.length = 8
          · have hs8 : (tx p).size = 8 := by omega
            have HH := keep (show hv8 p = valF 0 p by unfold hv8; rw [if_pos h8])
            clear TP
            have H8 := keep h8
            clear h8
            go_wp2_with fail
            go_loopw [7, 8] (fun vv ii wq => ∃ (k a : Nat), vv = .int .i64 a ∧ ii = .int .i64 k ∧ k ≤ 8 ∧ Kept (a < 16 ^ k ∧ valF a (p.drop k) = hv8 p) ∧ wq = wr) (fun _ ii _ => 8 - (intOf ii).toNat)
            case atStart => exact ⟨0, 0, rfl, rfl, by omega, keep ⟨by omega, HH.out.symm⟩, rfl⟩
            case round =>
              obtain ⟨k, a, rfl, rfl, hk, hkk, hwr⟩ := hrel
              have hwr := hwr.symm
              subst hwr
              obtain ⟨hai, ha⟩ := hkk.out
              clear hkk
              by_cases hklt : k < 8
              · have hltI : (k : Int) < 8 := by omega
                have his : k < (tx p).size := by omega
                have hit : k < p.length := by rw [H8.out]; exact hklt
                have hdr : p.drop k = (tx p)[k] :: p.drop (k + 1) := List.drop_eq_getElem_cons hit
                have hc256 : (tx p)[k].toNat < 256 := (tx p)[k].toNat_lt
                have DC := dv_cases (tx p)[k]
                have aB : a < 268435456 := by
                  have le : 16 ^ k ≤ 16 ^ 7 := Nat.pow_le_pow_right (by omega) (by omega)
                  have e8 : 16 ^ 7 = 268435456 := by decide
                  omega
                rw [hdr] at ha
                have w16 : IntKind.i64.wrap (16 * (a : Int)) = 16 * (a : Int) := IntWalk.i64_in _ ⟨by omega, by omega⟩
                rcases DC with ⟨d1, d2, d3⟩ | ⟨d1, d2, d3⟩ | ⟨d1, d2, d3⟩
                · have HN := keep (show 16 * a + ((tx p)[k].toNat - 48) < 16 ^ (k + 1) ∧ valF (16 * a + ((tx p)[k].toNat - 48)) (p.drop (k + 1)) = hv8 p from ⟨(step_ok hai hklt (by omega)).1, by rw [← ha]; exact (valF_step d3).symm⟩)
                  clear ha hai hdr d3
                  have h1 : (48 : Int) ≤ ((tx p)[k].toNat : Int) := by omega
                  have h2 : ((tx p)[k].toNat : Int) ≤ 57 := by omega
                  have h3 : ¬ (97 : Int) ≤ ((tx p)[k].toNat : Int) := by omega
                  have ws : IntKind.u8.wrap (((tx p)[k].toNat : Int) - 48) = ((tx p)[k].toNat : Int) - 48 := IntWalk.u8_in _ ⟨by omega, by omega⟩
                  have wc : IntKind.i64.wrap (((tx p)[k].toNat : Int) - 48) = ((tx p)[k].toNat : Int) - 48 := IntWalk.i64_in _ ⟨by omega, by omega⟩
                  have h4 : ¬ (((tx p)[k].toNat : Int) - 48 < 0) := by omega
                  have wa : IntKind.i64.wrap (16 * (a : Int) + (((tx p)[k].toNat : Int) - 48)) = 16 * (a : Int) + (((tx p)[k].toNat : Int) - 48) := IntWalk.i64_in _ ⟨by omega, by omega⟩
                  go_wp2_with fail
                  go_roundw
                  case rel => exact ⟨_, _, _, _, ⟨k + 1, 16 * a + ((tx p)[k].toNat - 48), by congr 1; omega, by go_num, by omega, HN⟩, rfl, rfl, rfl, rfl⟩
                  case measure => simp [intOf]; omega
                · have HN := keep (show 16 * a + ((tx p)[k].toNat - 87) < 16 ^ (k + 1) ∧ valF (16 * a + ((tx p)[k].toNat - 87)) (p.drop (k + 1)) = hv8 p from ⟨(step_ok hai hklt (by omega)).1, by rw [← ha]; exact (valF_step d3).symm⟩)
                  clear ha hai hdr d3
                  have h1 : (48 : Int) ≤ ((tx p)[k].toNat : Int) := by omega
                  have h2 : ¬ ((tx p)[k].toNat : Int) ≤ 57 := by omega
                  have h3 : (97 : Int) ≤ ((tx p)[k].toNat : Int) := by omega
                  have h3' : ((tx p)[k].toNat : Int) ≤ 102 := by omega
                  have ws : IntKind.u8.wrap (((tx p)[k].toNat : Int) - 97) = ((tx p)[k].toNat : Int) - 97 := IntWalk.u8_in _ ⟨by omega, by omega⟩
                  have wc : IntKind.i64.wrap (((tx p)[k].toNat : Int) - 97) = ((tx p)[k].toNat : Int) - 97 := IntWalk.i64_in _ ⟨by omega, by omega⟩
                  have wc2 : IntKind.i64.wrap (((tx p)[k].toNat : Int) - 97 + 10) = ((tx p)[k].toNat : Int) - 97 + 10 := IntWalk.i64_in _ ⟨by omega, by omega⟩
                  have h4 : ¬ (((tx p)[k].toNat : Int) - 97 + 10 < 0) := by omega
                  have wa : IntKind.i64.wrap (16 * (a : Int) + (((tx p)[k].toNat : Int) - 97 + 10)) = 16 * (a : Int) + (((tx p)[k].toNat : Int) - 97 + 10) := IntWalk.i64_in _ ⟨by omega, by omega⟩
                  go_wp2_with fail
                  go_roundw
                  case rel => exact ⟨_, _, _, _, ⟨k + 1, 16 * a + ((tx p)[k].toNat - 87), by congr 1; omega, by go_num, by omega, HN⟩, rfl, rfl, rfl, rfl⟩
                  case measure => simp [intOf]; omega
                · have HN := keep (show goodw p = none by unfold goodw; rw [← ha, valF_stop d3]; rfl)
                  have G3 := keep (show goodL goodw l = none by rw [G0.out, R2.out, allOf_none HN.out]; rfl)
                  clear ha hai hdr d3 HN
                  by_cases q1 : (tx p)[k].toNat < 48
                  · have h1 : ¬ (48 : Int) ≤ ((tx p)[k].toNat : Int) := by omega
                    have h3 : ¬ (97 : Int) ≤ ((tx p)[k].toNat : Int) := by omega
                    go_wp2_with fail
                    go_ret2
                    exact ⟨.inl ⟨G3.out, rfl⟩, hb.out⟩
                  · have h1 : (48 : Int) ≤ ((tx p)[k].toNat : Int) := by omega
                    have h2 : ¬ ((tx p)[k].toNat : Int) ≤ 57 := by omega
                    by_cases q3 : (tx p)[k].toNat < 97
                    · have h3 : ¬ (97 : Int) ≤ ((tx p)[k].toNat : Int) := by omega
                      go_wp2_with fail
                      go_ret2
                      exact ⟨.inl ⟨G3.out, rfl⟩, hb.out⟩
                    · have h3 : (97 : Int) ≤ ((tx p)[k].toNat : Int) := by omega
                      have h3' : ¬ ((tx p)[k].toNat : Int) ≤ 102 := by omega
                      go_wp2_with fail
                      go_ret2
                      exact ⟨.inl ⟨G3.out, rfl⟩, hb.out⟩
              · have hlt2 : ¬ (k : Int) < 8 := by omega
                have hi8 : k = 8 := by omega
                subst hi8
                have e8 : 16 ^ 8 = 4294967296 := by decide
                have hV := keep (show hv8 p = some a by rw [← ha, List.drop_eq_nil_of_le (by rw [H8.out]; omega)]; rfl)
                have hA : a < 4294967296 := by omega
                clear hai ha e8
                have LF := keep (fun w => l01From_b a w hA)
                have LB := keep (fun w => l01Bits_cb a w hA)
                have GW := keep (show goodw p = if cb a = a then some a else none by unfold goodw; rw [hV.out]; rfl)
                clear hV hs8
                by_cases hq9 : cb a = a
                · have hn : ((cb a : Int) != (a : Int)) = false := by rw [hq9]; simp
                  rw [if_pos hq9] at GW
                  have R3 := keep (show allOf goodw ps = (allOf goodw (ps.drop (i + 1))).map ((dn ++ [a]) ++ ·) by
                    rw [R2.out, allOf_some GW.out, Option.map_map]
                    congr 1
                    funext q
                    simp)
                  have hdn : dn.length < 256 := by omega
                  have HD := keep hdl
                  clear hdl
                  clear R2 GW hq9
                  go_wp2_with fail
                  refine (LF.out _).mono ?_
                  rintro e w4 ⟨rfl, hw4⟩
                  have hw4 := hw4.symm
                  subst hw4
                  go_wp2_with fail
                  refine (LB.out _).mono ?_
                  rintro e w4 ⟨rfl, hw4⟩
                  have hw4 := hw4.symm
                  subst hw4
                  go_wp2_with (at_builtin; go_loud (refine wpList_append_own_at _ rfl _ _ 38 rfl w.heap.size 25 i0 _ 1 4 Tryz.underlying38 HI.out HZ0.out HZ1.out HZ2.out rfl (by decide) (.slice A dn.length c) dn.length _ rfl (ho.out.alloc _) ⟨wr.heap.size, 0, none⟩ 1 1 [fvw a] rfl rfl ?c1 ?c2 ?c3 ?c4 ?c5 ?_))
                  case c1 => exact new_cell
                  case c2 => intro u hu; simp only [List.mem_cons, List.not_mem_nil, or_false] at hu; subst hu; rfl
                  case c3 => unfold maxLen; omega
                  case c4 => omega
                  case c5 => simp only [World.size_alloc]; omega
                  intro v' w4 hown' hgrow _ _
                  obtain ⟨g', cap', rfl, hB', hlt'⟩ := hown'.form (by omega)
                  have hb4 := keep ((hb.out.alloc hb0 (.cells #[fvw a] 25)).grown hgrow (by simp only [World.size_alloc]; omega) (fun g e => by have := ((ho.out.alloc (.cells #[fvw a] 25)).lt g e).1; omega))
                  have HP := keep ((hp.out.alloc (.cells #[fvw a] 25)).kept hgrow (kinds_ne hp.out ho.out (by decide)))
                  have HO := keep hown'
                  clear hown' hgrow
                  go_wp2_with fail
                  go_roundw
                  case rel => exact ⟨dn ++ [a], i + 1, _, _, by rw [List.length_append]; rfl, by go_num, by omega, by rw [List.length_append, HD.out]; rfl, R3, keep (by
                    have e := HO.out
                    rw [List.length_append, List.map_append]
                    exact e), HP, hb4⟩
                  case measure => simp [intOf]; omega
                · have hn : ((cb a : Int) != (a : Int)) = true := by rw [bne_iff_ne]; omega
                  rw [if_neg hq9] at GW
                  have G3 := keep (show goodL goodw l = none by rw [G0.out, R2.out, allOf_none GW.out]; rfl)
                  clear R2 GW hq9
                  go_wp2_with fail
                  refine (LF.out _).mono ?_
                  rintro e w4 ⟨rfl, hw4⟩
                  have hw4 := hw4.symm
                  subst hw4
                  go_wp2_with fail
                  refine (LB.out _).mono ?_
                  rintro e w4 ⟨rfl, hw4⟩
                  have hw4 := hw4.symm
                  subst hw4
                  go_wp2_with fail
                  go_ret2
                  exact ⟨.inl ⟨G3.out, rfl⟩, hb.out⟩
          · have q8 : (((tx p).size : Int) != 8) = true := by rw [bne_iff_ne]; omega
            have R3 := keep (show goodL goodw l = none by rw [G0.out, R2.out, allOf_none (goodw_len h8)]; rfl)
            go_wp2_with fail
            go_ret2
            exact ⟨.inl ⟨R3.out, rfl⟩, hb.out⟩
        · have hlt2 : ¬ (i : Int) < (ps.length : Int) := by omega
          have R3 := keep (show allOf goodw ps = some dn by
            have h := hR.out
            rw [List.drop_eq_nil_of_le (by omega)] at h
            rw [h]; simp [allOf])
          go_wp2_with fail
          go_ret2
          exact ⟨.inr ⟨dn, A, c, G0.out.trans R3.out, by rw [hdl]; rfl, ho.out⟩, hb.out⟩
end Go.Proofs.YtdkjaffnkgbcnaaGreatDoor
