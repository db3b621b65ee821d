/- Contract: the reference's reading of lists of whole numbers. -/
import Derived.Test.YtdkjaffnkgbcnaaGreatDoorYd
import Derived.Test.YtdkjaffnkgbcnaaGreatDoorYe
namespace Go.Proofs.YtdkjaffnkgbcnaaGreatDoor
open Go.RowKit Go.Sort
set_option linter.unusedSimpArgs false
set_option linter.unusedVariables false

set_option maxHeartbeats 8000000 in
set_option maxRecDepth 20000 in
theorem l01Numbers_any (l : List UInt8) (w : World) (hmax : l.length ≤ 1100000) :
    Calls Tryz.prog 21 #[.string (tx l)] w fun e w' => GRm goodd dvv 2 w.heap.size l e w' ∧ Below w.heap.size w w' := by
  obtain ⟨i0, hi, hz0, hz1, hz2⟩ := info_parts infoI64
  have HI := keep hi
  have HZ0 := keep hz0
  have HZ1 := keep hz1
  have HZ2 := keep hz2
  clear hi hz0 hz1 hz2
  have TS := tx_size l
  have k2 : (tx l).toList = l := by rw [Lib.toList_data, tx_bytes]
  have CU := keep (fun w => l01Cut_mk 44 (tx l) w (by omega))
  rw [tx_bytes] at CU
  have PL := parts_len 44 l []
  by_cases hnone : l = [110, 111, 110, 101]
  · have G0 := keep (show goodM goodd l = some [] by unfold goodM; rw [if_pos hnone])
    have hq : (l == [110, 111, 110, 101]) = true := by rw [hnone]; rfl
    clear hnone
    go_enter Tryz.func21, Tryz.ntmps21
    go_wp2_with fail
    go_ret2
    exact ⟨.inr ⟨[], _, 0, G0.out, rfl, World.ownsRow_made w #[] 0 (Nat.le_refl _) (by unfold maxLen; omega) rfl⟩, by go_grown⟩
  · have hq : (l == [110, 111, 110, 101]) = false := by rw [beq_eq_false_iff_ne]; exact hnone
    by_cases hbig : 64 < (parts 44 [] l).length
    · have G0 := keep (show goodM goodd l = none by unfold goodM; rw [if_neg hnone, if_pos hbig])
      have hbigI : (64 : Int) < ((parts 44 [] l).length : Int) := by omega
      clear hnone
      go_enter Tryz.func21, Tryz.ntmps21
      go_wp2_with fail
      refine (CU.out _).mono ?_
      rintro e w1 ⟨A, c, rfl, ho, hb⟩
      have HB := keep ((show Below w.heap.size w _ by go_grown).trans (hb.mono (by simp)))
      clear hb ho
      go_wp2_with fail
      go_ret2
      exact ⟨.inl ⟨G0.out, rfl⟩, HB.out⟩
    · have G0 := keep (show goodM goodd l = allOf goodd (parts 44 [] l) by unfold goodM; rw [if_neg hnone, if_neg hbig])
      have hbigI : ¬ (64 : Int) < ((parts 44 [] l).length : Int) := by omega
      clear hnone
      have PS := parts_ne 44 [] l
      have PS2 := keep (show ∀ q ∈ parts 44 [] l, q.length ≤ 1100000 from fun q hq => by
        have h := parts_sum 44 l [] q hq
        simp at h
        omega)
      generalize parts 44 [] l = ps at *
      have PLs : ps.length ≤ 64 := by omega
      clear PL hmax hbig TS
      go_enter Tryz.func21, Tryz.ntmps21
      go_wp2_with fail
      refine (CU.out _).mono ?_
      rintro e w1 ⟨PA, pc, rfl, ho, hb⟩
      have OW := keep (owns_below (World.ownsRow_made w (e := 2) (size := 1) #[] 0 (Nat.le_refl _) (by unfold maxLen; omega) rfl) hb)
      have OP := keep (own_base ho (B' := w.heap.size) (by simp))
      have HB := keep ((show Below w.heap.size w _ by go_grown).trans (hb.mono (by simp)))
      obtain ⟨g, pc2, e1, _, _⟩ := ho.form (by have : ps.length ≠ 0 := fun e => PS (List.eq_nil_of_length_eq_zero e); omega)
      injection e1 with e1 e2 e3
      subst e1
      subst e3
      clear hb ho CU
      go_wp2_with fail
      go_loopw [4, 6] (fun o t wr => ∃ (dn : List Int) (i : Nat) (A : Option Addr) (c : Nat), o = .slice A dn.length c ∧ t = .int .i64 i ∧ i ≤ ps.length ∧ dn.length = i ∧ Kept (allOf goodd ps = (allOf goodd (ps.drop i)).map (dn ++ ·)) ∧ Kept (wr.ownsRow w.heap.size 2 1 (.slice A dn.length c) dn.length (dn.map dvv)) ∧ Kept (wr.ownsRow w.heap.size 9 1 (.slice (some ⟨g, 0, none⟩) ps.length pc) ps.length (sv (ps.map tx))) ∧ Kept (Below w.heap.size w wr)) (fun _ t _ => ps.length - (intOf t).toNat)
      case atStart => exact ⟨[], 0, _, _, rfl, rfl, by omega, rfl, keep (by cases h : allOf goodd ps <;> simp [h]), OW, OP, HB⟩
      case round =>
        clear OW OP HB
        obtain ⟨dn, i, A, c, rfl, rfl, hi, hdl, hR, ho, hp, hb⟩ := hrel
        have hb0 := hb.out.size
        by_cases hlt : i < ps.length
        · have hltI : (i : Int) < (ps.length : Int) := by omega
          have hcell : wr.cell? ⟨g, i, none⟩ = some (.string (tx ps[i])) := by
            have h := hp.out.cells (g := g) rfl i (.string (tx ps[i])) (by
              unfold sv
              rw [List.map_map, List.getElem?_map, List.getElem?_eq_getElem hlt]; rfl)
            rwa [Addr.add_lit, Nat.zero_add] at h
          have hdr : ps.drop i = ps[i] :: ps.drop (i + 1) := List.drop_eq_getElem_cons hlt
          have R2 := keep (show allOf goodd ps = (allOf goodd (ps[i] :: ps.drop (i + 1))).map (dn ++ ·) by rw [← hdr]; exact hR.out)
          have VL := keep (l01Value_any ps[i] wr (PS2.out _ (List.getElem_mem hlt)))
          clear hdr hR
          generalize ps[i] = p at *
          go_wp2_with fail
          refine VL.out.mono ?_
          rintro e w4 ⟨hov, hb4⟩
          have HB4 := keep (hb.out.trans (hb4.mono hb0))
          have hb4z := HB4.out.size
          have HO4 := keep (owns_below ho.out hb4)
          have HP4 := keep (owns_below hp.out hb4)
          clear hb4 hcell VL ho hp hb
          rcases hov with ⟨b, hg, rfl⟩ | ⟨v, hg, rfl⟩
          · have R3 := keep (show allOf goodd ps = (allOf goodd (ps.drop (i + 1))).map ((dn ++ [b]) ++ ·) by
              rw [R2.out, allOf_some hg, Option.map_map]
              congr 1
              funext q
              simp)
            clear R2 hg
            have hdn : dn.length < 64 := by omega
            have HD := keep hdl
            clear hdl
            unfold dvv
            go_wp2_with (at_builtin; go_loud (refine wpList_append_own_at _ rfl _ _ 35 rfl w.heap.size 2 i0 _ 1 8 Tryz.underlying35 HI.out HZ0.out HZ1.out HZ2.out rfl (by decide) (.slice A dn.length c) dn.length _ rfl (HO4.out.alloc _) ⟨w4.heap.size, 0, none⟩ 1 1 [dvv b] rfl rfl ?c1 ?c2 ?c3 ?c4 ?c5 ?_))
            case c1 => exact new_cell
            case c2 => intro u hu; simp only [List.mem_cons, List.not_mem_nil, or_false] at hu; subst hu; rfl
            case c3 => unfold maxLen; omega
            case c4 => omega
            case c5 => simp only [World.size_alloc]; omega
            intro v' w5 hown' hgrow _ _
            obtain ⟨g', cap', rfl, hB', hlt'⟩ := hown'.form (by omega)
            have hb5 := keep ((HB4.out.alloc hb4z (.cells #[dvv b] 2)).grown hgrow (by simp only [World.size_alloc]; omega) (fun g e => by have := ((HO4.out.alloc (.cells #[dvv b] 2)).lt g e).1; omega))
            have HP := keep ((HP4.out.alloc (.cells #[dvv b] 2)).kept hgrow (kinds_ne HP4.out HO4.out (by decide)))
            have HO := keep hown'
            clear hown' hgrow
            go_wp2_with fail
            go_roundw
            case rel => exact ⟨dn ++ [b], i + 1, _, _, by rw [List.length_append]; rfl, by go_num, by omega, by rw [List.length_append, HD.out]; rfl, R3, keep (by
              have e := HO.out
              rw [List.length_append, List.map_append]
              exact e), HP, hb5⟩
            case measure => simp [intOf]; omega
          · have G3 := keep (show goodM goodd l = none by rw [G0.out, R2.out, allOf_none hg]; rfl)
            clear R2 hg hdl
            go_wp2_with fail
            go_ret2
            exact ⟨.inl ⟨G3.out, rfl⟩, HB4.out⟩
        · have hlt2 : ¬ (i : Int) < (ps.length : Int) := by omega
          have R3 := keep (show goodM goodd l = some dn by
            have h := hR.out
            rw [List.drop_eq_nil_of_le (by omega)] at h
            rw [G0.out, h]; simp [allOf])
          go_wp2_with fail
          go_ret2
          exact ⟨.inr ⟨dn, A, c, R3.out, by rw [hdl]; rfl, ho.out⟩, hb.out⟩
end Go.Proofs.YtdkjaffnkgbcnaaGreatDoor
