/- Contracts: the program's reading of lists of whole numbers. -/
import Derived.Test.YtdkjaffnkgbcnaaGreatDoorYc
import Derived.Test.YtdkjaffnkgbcnaaGreatDoorUi
namespace Go.Proofs.YtdkjaffnkgbcnaaGreatDoor
open Go.RowKit Go.Sort
set_option linter.unusedSimpArgs false
set_option linter.unusedVariables false

/-- What a list's text says, at most sixty-four elements. -/
def goodM {β : Type} (f : List UInt8 → Option β) (l : List UInt8) : Option (List β) := if l = [110, 111, 110, 101] then some [] else if 64 < (parts 44 [] l).length then none else allOf f (parts 44 [] l)
theorem goodM_else {β : Type} {f : List UInt8 → Option β} {l : List UInt8} (h : l ≠ [110, 111, 110, 101]) : goodM f l = if 64 < (parts 44 [] l).length then none else allOf f (parts 44 [] l) := by
  unfold goodM
  rw [if_neg h]
def GRm {β : Type} (f : List UInt8 → Option β) (cv : β → Value) (T : Nat) (B : Nat) (l : List UInt8) (e : Ending) (w' : World) : Prop := (goodM f l = none ∧ e = .returned (.tuple #[.slice none 0 0, .bool false])) ∨ (∃ (cs : List β) (A : Option Addr) (c : Nat), goodM f l = some cs ∧ e = .returned (.tuple #[.slice A cs.length c, .bool true]) ∧ w'.ownsRow B T 1 (.slice A cs.length c) cs.length (cs.map cv))
theorem infoI64 : (Tryz.prog.info? 2).map (fun i => (i.zero, i.size, i.bytes)) = some (some (.int .i64 0), 1, 8) := by kernel_rfl

set_option maxHeartbeats 8000000 in
set_option maxRecDepth 20000 in
theorem readTexts_d (l : List UInt8) (w : World) (hmax : l.length ≤ 1100000) (hmx : MX w) (her : ER w) (htz : P10 w) :
    Calls Tryz.prog 27 #[.string (tx l), .int .i64 64, .func (.func 28) #[] #[]] w fun e w' => GRm goodd dvv 2 w.heap.size l e w' ∧ Below w.heap.size w w' := by
  obtain ⟨i0, hi, hz0, hz1, hz2⟩ := info_parts infoI64
  have HI := keep hi
  have HZ0 := keep hz0
  have HZ1 := keep hz1
  have HZ2 := keep hz2
  clear hi hz0 hz1 hz2
  have k2 : (tx l).toList = l := by rw [Lib.toList_data, tx_bytes]
  have HER := keep her
  have HP10 := keep htz
  have SP := keep (Split_mk 44 l w hmax hmx)
  have OF := keep (fun (p : List UInt8) (w : World) (hp : p.length ≤ 1100000) (h1 : ER w) (h2 : P10 w) => ReadDecimal_any p w hp h1 h2)
  have PL := parts_len 44 l []
  clear her htz hmx
  by_cases hnone : l = [110, 111, 110, 101]
  · have G0 := keep (show goodM goodd l = some [] by unfold goodM; rw [if_pos hnone])
    have hq : (l == [110, 111, 110, 101]) = true := by rw [hnone]; rfl
    clear hnone PL hmax
    go_enter Tryz.func27, Tryz.ntmps27
    go_wp2_with fail
    go_ret2
    exact ⟨.inr ⟨[], none, 0, G0.out, rfl, ⟨rfl, .inl ⟨rfl, rfl⟩⟩⟩, Below.refl _ _⟩
  · have hq : (l == [110, 111, 110, 101]) = false := by rw [beq_eq_false_iff_ne]; exact hnone
    have GL := keep (goodM_else (f := goodd) hnone)
    have PS := parts_ne 44 [] l
    have PS2 := keep (show ∀ q ∈ parts 44 [] l, q.length ≤ 1100000 from fun q hq => by
      have h := parts_sum 44 l [] q hq
      simp at h
      omega)
    clear hnone
    generalize parts 44 [] l = ps at *
    have PLs : ps.length ≤ 1100001 := by omega
    clear PL hmax
    go_enter Tryz.func27, Tryz.ntmps27
    go_wp2_with fail
    refine SP.out.mono ?_
    rintro e w1 ⟨PA, pc, rfl, ho, hb⟩
    have OP := keep ho
    have HB := keep hb
    obtain ⟨g, pc2, e1, _, _⟩ := ho.form (by have : ps.length ≠ 0 := fun e => PS (List.eq_nil_of_length_eq_zero e); omega)
    injection e1 with e1 e2 e3
    subst e1
    subst e3
    clear hb ho SP e2
    go_wp2_with fail
    go_loopw [8, 18] (fun o t wr => ∃ (dn : List Int) (i : Nat) (A : Option Addr) (c : Nat), o = .slice A dn.length c ∧ t = .int .i64 i ∧ i ≤ ps.length ∧ i ≤ 64 ∧ dn.length = i ∧ Kept (allOf goodd ps = (allOf goodd (ps.drop i)).map (dn ++ ·)) ∧ Kept (wr.ownsRow w.heap.size 2 1 (.slice A dn.length c) dn.length (dn.map dvv)) ∧ Kept (wr.ownsRow w.heap.size 9 1 (.slice (some ⟨g, 0, none⟩) ps.length pc) ps.length (sv (ps.map tx))) ∧ Kept (Below w.heap.size w wr)) (fun _ t _ => ps.length - (intOf t).toNat)
    case atStart => exact ⟨[], 0, none, 0, rfl, rfl, by omega, by omega, rfl, keep (by cases h : allOf goodd ps <;> simp [h]), keep ⟨rfl, .inl ⟨rfl, rfl⟩⟩, OP, HB⟩
    case round =>
      clear OP HB
      obtain ⟨dn, i, A, c, rfl, rfl, hi, hi2, hdl, hR, ho, hp, hb⟩ := hrel
      have hb0 := hb.out.size
      by_cases hlt : i < ps.length
      · have hltI : (i : Int) < (ps.length : Int) := by omega
        have hcell : wr.cell? ⟨g, i, none⟩ = some (.string (tx ps[i])) := by
          have h := hp.out.cells (g := g) rfl i (.string (tx ps[i])) (by
            unfold sv
            rw [List.map_map, List.getElem?_map, List.getElem?_eq_getElem hlt]; rfl)
          rwa [Addr.add_lit, Nat.zero_add] at h
        have hdr : ps.drop i = ps[i] :: ps.drop (i + 1) := List.drop_eq_getElem_cons hlt
        have R2 := keep (show allOf goodd ps = (allOf goodd (ps[i] :: ps.drop (i + 1))).map (dn ++ ·) by rw [← hdr]; exact hR.out)
        have OFw := keep (OF.out ps[i] wr (PS2.out _ (List.getElem_mem hlt)) (HER.out.below hb.out (Nat.le_refl _)) (HP10.out.below hb.out (Nat.le_refl _)))
        clear hdr hR
        generalize ps[i] = p at *
        go_wp2_with fail
        refine OFw.out.mono ?_
        rintro e w4 ⟨hov, hb4⟩
        have HB4 := keep (hb.out.trans (hb4.mono hb0))
        have hb4z := HB4.out.size
        have HO4 := keep (owns_below ho.out hb4)
        have HP4 := keep (owns_below hp.out hb4)
        clear hb4 hcell OFw ho hp hb
        rcases hov with ⟨b, hg, rfl⟩ | ⟨v, hg, rfl⟩
        · have R3 := keep (show allOf goodd ps = (allOf goodd (ps.drop (i + 1))).map ((dn ++ [b]) ++ ·) by
            rw [R2.out, allOf_some hg, Option.map_map]
            congr 1
            funext q
            simp)
          clear R2 hg
          by_cases h64 : i = 64
          · have hq2 : ((dn.length : Int) == 64) = true := by rw [hdl, h64]; rfl
            have G3 := keep (show goodM goodd l = none by rw [GL.out, if_pos (by omega)])
            clear R3 h64 hdl
            go_wp2_with fail
            go_ret2
            exact ⟨.inl ⟨G3.out, rfl⟩, HB4.out⟩
          · have hq2 : ((dn.length : Int) == 64) = false := by rw [beq_eq_false_iff_ne]; omega
            have hdn : dn.length < 64 := by omega
            have HD := keep hdl
            have h64' : i + 1 ≤ 64 := by omega
            clear h64 hdl
            unfold dvv
            go_wp2_with (at_builtin; go_loud (refine wpList_append_own_at _ rfl _ _ 35 rfl w.heap.size 2 i0 _ 1 8 Tryz.underlying35 HI.out HZ0.out HZ1.out HZ2.out rfl (by decide) (.slice A dn.length c) dn.length _ rfl (HO4.out.alloc _) ⟨w4.heap.size, 0, none⟩ 1 1 [dvv b] rfl rfl ?c1 ?c2 ?c3 ?c4 ?c5 ?_))
            case c1 => exact new_cell
            case c2 => intro u hu; simp only [List.mem_cons, List.not_mem_nil, or_false] at hu; subst hu; rfl
            case c3 => unfold maxLen; omega
            case c4 => omega
            case c5 => simp only [World.size_alloc]; omega
            intro v' w5 hown' hgrow _ _
            obtain ⟨g', cap', rfl, hB', hlt'⟩ := hown'.form (by omega)
            have hb5 := keep ((HB4.out.alloc hb4z (.cells #[dvv b] 2)).grown hgrow (by simp only [World.size_alloc]; omega) (fun g e => by have := ((HO4.out.alloc (.cells #[dvv b] 2)).lt g e).1; omega))
            have HP := keep ((HP4.out.alloc (.cells #[dvv b] 2)).kept hgrow (kinds_ne HP4.out HO4.out (by decide)))
            have HO := keep hown'
            clear hown' hgrow
            go_wp2_with fail
            go_roundw
            case rel => exact ⟨dn ++ [b], i + 1, _, _, by rw [List.length_append]; rfl, by go_num, by omega, by omega, by rw [List.length_append, HD.out]; rfl, R3, keep (by
              have e := HO.out
              rw [List.length_append, List.map_append]
              exact e), HP, hb5⟩
            case measure => simp [intOf]; omega
        · have G3 := keep (show goodM goodd l = none by rw [GL.out, R2.out, allOf_none hg]; split <;> rfl)
          clear R2 hg hdl
          go_wp2_with fail
          go_ret2
          exact ⟨.inl ⟨G3.out, rfl⟩, HB4.out⟩
      · have hlt2 : ¬ (i : Int) < (ps.length : Int) := by omega
        have R3 := keep (show goodM goodd l = some dn by
          have h := hR.out
          rw [List.drop_eq_nil_of_le (by omega)] at h
          rw [GL.out, if_neg (by omega), h]; simp [allOf])
        go_wp2_with fail
        go_ret2
        exact ⟨.inr ⟨dn, A, c, R3.out, by rw [hdl]; rfl, ho.out⟩, hb.out⟩


set_option maxHeartbeats 1000000 in
theorem ReadList_any (l : List UInt8) (w : World) (hmax : l.length ≤ 1100000) (hmx : MX w) (her : ER w) (htz : P10 w) :
    Calls Tryz.prog 11 #[.string (tx l)] w fun e w' => GRm goodd dvv 2 w.heap.size l e w' ∧ Below w.heap.size w w' := by
  have RT := keep (readTexts_d l w hmax hmx her htz)
  clear hmx her htz
  go_enter Tryz.func11, Tryz.ntmps11
  go_wp2_with fail
  refine RT.out.mono ?_
  rintro e w1 ⟨hg, hb⟩
  have HB := keep hb
  clear hb
  rcases hg with ⟨gn, rfl⟩ | ⟨cs, A, c, gs, rfl, ho⟩
  · have GN := keep gn
    clear gn
    go_wp2_with fail
    go_ret2
    exact ⟨.inl ⟨GN.out, rfl⟩, HB.out⟩
  · have GS := keep gs
    have HO := keep ho
    clear gs ho
    go_wp2_with fail
    go_ret2
    exact ⟨.inr ⟨cs, A, c, GS.out, rfl, HO.out⟩, HB.out⟩
end Go.Proofs.YtdkjaffnkgbcnaaGreatDoor
