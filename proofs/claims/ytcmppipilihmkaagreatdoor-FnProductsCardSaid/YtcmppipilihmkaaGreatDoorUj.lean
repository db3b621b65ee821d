/- Contract: the program's reading of lists of words. -/
import Derived.Test.YtcmppipilihmkaaGreatDoorUi
namespace Go.Proofs.YtcmppipilihmkaaGreatDoor
open Go.RowKit Go.Sort
set_option linter.unusedSimpArgs false
set_option linter.unusedVariables false

set_option maxHeartbeats 8000000 in
set_option maxRecDepth 20000 in
theorem readTexts_f (l : List UInt8) (w : World) (hmax : l.length ≤ 1100000) (hmx : MX w) (her : ER w) (htz : TZ w) :
    Calls Tryz.prog 69 #[.string (tx l), .int .i64 256, .func (.func 70) #[] #[]] w fun e w' => GRs goodw fvw 28 w.heap.size l e w' ∧ Below w.heap.size w w' := by
  obtain ⟨i0, hi, hz0, hz1, hz2⟩ := info_parts infoF32
  have HI := keep hi
  have HZ0 := keep hz0
  have HZ1 := keep hz1
  have HZ2 := keep hz2
  clear hi hz0 hz1 hz2
  have k2 : (tx l).toList = l := by rw [Lib.toList_data, tx_bytes]
  have HER := keep her
  have HTZ := keep htz
  have SP := keep (Split_mk 44 l w hmax hmx)
  have OF := keep (fun (p : List UInt8) (w : World) (hp : p.length ≤ 1100000) (h1 : ER w) (h2 : TZ w) => (readBits_any p w hp h1 h2).mono (R' := fun e w' => OV goodw fvw p e ∧ Below w.heap.size w w') (fun e w' h => ⟨h.1.ov, h.2⟩))
  have PL := parts_len 44 l []
  clear her htz hmx
  by_cases hnone : l = [110, 111, 110, 101]
  · have G0 := keep (show goodL goodw l = some [] by unfold goodL; rw [if_pos hnone])
    have hq : (l == [110, 111, 110, 101]) = true := by rw [hnone]; rfl
    clear hnone PL hmax
    go_enter Tryz.func69, Tryz.ntmps69
    go_wp2_with fail
    go_ret2
    exact ⟨.inr ⟨[], none, 0, G0.out, rfl, ⟨rfl, .inl ⟨rfl, rfl⟩⟩⟩, Below.refl _ _⟩
  · have hq : (l == [110, 111, 110, 101]) = false := by rw [beq_eq_false_iff_ne]; exact hnone
    have GL := keep (goodL_else (f := goodw) hnone)
    have PS := parts_ne 44 [] l
    have PS2 := keep (show ∀ q ∈ parts 44 [] l, q.length ≤ 1100000 from fun q hq => by
      have h := parts_sum 44 l [] q hq
      simp at h
      omega)
    clear hnone
    generalize parts 44 [] l = ps at *
    have PLs : ps.length ≤ 1100001 := by omega
    clear PL hmax
    go_enter Tryz.func69, Tryz.ntmps69
    go_wp2_with fail
    refine SP.out.mono ?_
    rintro e w1 ⟨PA, pc, rfl, ho, hb⟩
    have OP := keep ho
    have HB := keep hb
    obtain ⟨g, pc2, e1, _, _⟩ := ho.form (by have : ps.length ≠ 0 := fun e => PS (List.eq_nil_of_length_eq_zero e); omega)
    injection e1 with e1 e2 e3
    subst e1
    subst e3
    clear hb ho SP e2
    go_wp2_with fail
    go_loopw [8, 18] (fun o t wr => ∃ (dn : List Nat) (i : Nat) (A : Option Addr) (c : Nat), o = .slice A dn.length c ∧ t = .int .i64 i ∧ i ≤ ps.length ∧ i ≤ 256 ∧ dn.length = i ∧ Kept (allOf goodw ps = (allOf goodw (ps.drop i)).map (dn ++ ·)) ∧ Kept (wr.ownsRow w.heap.size 28 1 (.slice A dn.length c) dn.length (dn.map fvw)) ∧ Kept (wr.ownsRow w.heap.size 9 1 (.slice (some ⟨g, 0, none⟩) ps.length pc) ps.length (sv (ps.map tx))) ∧ Kept (Below w.heap.size w wr)) (fun _ t _ => ps.length - (intOf t).toNat)
    case atStart => exact ⟨[], 0, none, 0, rfl, rfl, by omega, by omega, rfl, keep (by cases h : allOf goodw ps <;> simp [h]), keep ⟨rfl, .inl ⟨rfl, rfl⟩⟩, OP, HB⟩
    case round =>
      clear OP HB
      obtain ⟨dn, i, A, c, rfl, rfl, hi, hi2, hdl, hR, ho, hp, hb⟩ := hrel
      have hb0 := hb.out.size
      by_cases hlt : i < ps.length
      · have hltI : (i : Int) < (ps.length : Int) := by omega
        have hcell : wr.cell? ⟨g, i, none⟩ = some (.string (tx ps[i])) := by
          have h := hp.out.cells (g := g) rfl i (.string (tx ps[i])) (by
            unfold sv
            rw [List.map_map, List.getElem?_map, List.getElem?_eq_getElem hlt]; rfl)
          rwa [Addr.add_lit, Nat.zero_add] at h
        have hdr : ps.drop i = ps[i] :: ps.drop (i + 1) := List.drop_eq_getElem_cons hlt
        have R2 := keep (show allOf goodw ps = (allOf goodw (ps[i] :: ps.drop (i + 1))).map (dn ++ ·) by rw [← hdr]; exact hR.out)
        have OFw := keep (OF.out ps[i] wr (PS2.out _ (List.getElem_mem hlt)) (HER.out.below hb.out (Nat.le_refl _)) (HTZ.out.below hb.out (Nat.le_refl _)))
        clear hdr hR
        generalize ps[i] = p at *
        go_wp2_with fail
        refine OFw.out.mono ?_
        rintro e w4 ⟨hov, hb4⟩
        have HB4 := keep (hb.out.trans (hb4.mono hb0))
        have hb4z := HB4.out.size
        have HO4 := keep (owns_below ho.out hb4)
        have HP4 := keep (owns_below hp.out hb4)
        clear hb4 hcell OFw ho hp hb
        rcases hov with ⟨b, hg, rfl⟩ | ⟨v, hg, rfl⟩
        · have R3 := keep (show allOf goodw ps = (allOf goodw (ps.drop (i + 1))).map ((dn ++ [b]) ++ ·) by
            rw [R2.out, allOf_some hg, Option.map_map]
            congr 1
            funext q
            simp)
          clear R2 hg
          by_cases h256 : i = 256
          · have hq2 : ((dn.length : Int) == 256) = true := by rw [hdl, h256]; rfl
            have G3 := keep (show goodL goodw l = none by rw [GL.out, if_pos (by omega)])
            clear R3 h256 hdl
            go_wp2_with fail
            go_ret2
            exact ⟨.inl ⟨G3.out, rfl⟩, HB4.out⟩
          · have hq2 : ((dn.length : Int) == 256) = false := by rw [beq_eq_false_iff_ne]; omega
            have hdn : dn.length < 256 := by omega
            have HD := keep hdl
            have h256' : i + 1 ≤ 256 := by omega
            clear h256 hdl
            unfold fvw
            go_wp2_with (at_builtin; go_loud (refine wpList_append_own_at _ rfl _ _ 52 rfl w.heap.size 28 i0 _ 1 4 Tryz.underlying52 HI.out HZ0.out HZ1.out HZ2.out rfl (by decide) (.slice A dn.length c) dn.length _ rfl (HO4.out.alloc _) ⟨w4.heap.size, 0, none⟩ 1 1 [fvw b] rfl rfl ?c1 ?c2 ?c3 ?c4 ?c5 ?_))
            case c1 => exact new_cell
            case c2 => intro u hu; simp only [List.mem_cons, List.not_mem_nil, or_false] at hu; subst hu; rfl
            case c3 => unfold maxLen; omega
            case c4 => omega
            case c5 => simp only [World.size_alloc]; omega
            intro v' w5 hown' hgrow _ _
            obtain ⟨g', cap', rfl, hB', hlt'⟩ := hown'.form (by omega)
            have hb5 := keep ((HB4.out.alloc hb4z (.cells #[fvw b] 28)).grown hgrow (by simp only [World.size_alloc]; omega) (fun g e => by have := ((HO4.out.alloc (.cells #[fvw b] 28)).lt g e).1; omega))
            have HP := keep ((HP4.out.alloc (.cells #[fvw b] 28)).kept hgrow (kinds_ne HP4.out HO4.out (by decide)))
            have HO := keep hown'
            clear hown' hgrow
            go_wp2_with fail
            go_roundw
            case rel => exact ⟨dn ++ [b], i + 1, _, _, by rw [List.length_append]; rfl, by go_num, by omega, by omega, by rw [List.length_append, HD.out]; rfl, R3, keep (by
              have e := HO.out
              rw [List.length_append, List.map_append]
              exact e), HP, hb5⟩
            case measure => simp [intOf]; omega
        · have G3 := keep (show goodL goodw l = none by rw [GL.out, R2.out, allOf_none hg]; split <;> rfl)
          clear R2 hg hdl
          go_wp2_with fail
          go_ret2
          exact ⟨.inl ⟨G3.out, rfl⟩, HB4.out⟩
      · have hlt2 : ¬ (i : Int) < (ps.length : Int) := by omega
        have R3 := keep (show goodL goodw l = some dn by
          have h := hR.out
          rw [List.drop_eq_nil_of_le (by omega)] at h
          rw [GL.out, if_neg (by omega), h]; simp [allOf])
        go_wp2_with fail
        go_ret2
        exact ⟨.inr ⟨dn, A, c, R3.out, by rw [hdl]; rfl, ho.out⟩, hb.out⟩

end Go.Proofs.YtcmppipilihmkaaGreatDoor
