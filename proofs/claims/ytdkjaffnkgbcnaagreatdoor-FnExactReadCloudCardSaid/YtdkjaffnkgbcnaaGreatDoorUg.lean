/- Contract: the specification's reading of pairs of words. -/
import Derived.Test.YtdkjaffnkgbcnaaGreatDoorUf
namespace Go.Proofs.YtdkjaffnkgbcnaaGreatDoor
open Go.RowKit Go.Sort
set_option linter.unusedSimpArgs false

/-- What f says of every one, when it says something of each. -/
def allOf {α β : Type} (f : α → Option β) : List α → Option (List β)
  | [] => some []
  | a :: r => match f a with
    | some b => match allOf f r with
      | some c => some (b :: c)
      | none => none
    | none => none
theorem allOf_some {α β : Type} {f : α → Option β} {a : α} {b : β} {r : List α} (h : f a = some b) : allOf f (a :: r) = (allOf f r).map (b :: ·) := by
  conv => lhs; unfold allOf
  rw [h]
  cases allOf f r <;> rfl
theorem allOf_none {α β : Type} {f : α → Option β} {a : α} {r : List α} (h : f a = none) : allOf f (a :: r) = none := by
  unfold allOf
  rw [h]
/-- A pair of words of a text of sixteen digits. -/
def goodc (l : List UInt8) : Option (Nat × Nat) := if l.length = 16 then (match goodw (l.take 8), goodw (l.drop 8) with | some a, some b => some (a, b) | _, _ => none) else none
/-- What a list's text says. -/
def goodL {β : Type} (f : List UInt8 → Option β) (l : List UInt8) : Option (List β) := if l = [110, 111, 110, 101] then some [] else if 256 < (parts 44 [] l).length then none else allOf f (parts 44 [] l)
def cv (p : Nat × Nat) : Value := .complex .f32 p.1 p.2
theorem RBs.some {l : List UInt8} {v : Nat} {e : Ending} (h : RBs l e) (g : goodw l = some v) : e = .returned (.tuple #[.float .f32 v, .bool true]) := by
  obtain ⟨x, b, _, hb, hv, he⟩ := h
  rw [he, hb, hv v g, g]; rfl
theorem RBs.none {l : List UInt8} {e : Ending} (h : RBs l e) (g : goodw l = none) : ∃ x : Nat, e = .returned (.tuple #[.float .f32 x, .bool false]) := by
  obtain ⟨x, b, _, hb, _, he⟩ := h
  exact ⟨x, by rw [he, hb, g]; rfl⟩
theorem infoC64 : (Tryz.prog.info? 41).map (fun i => (i.zero, i.size, i.bytes)) = some (some (.complex .f32 0 0), 1, 8) := by kernel_rfl

theorem own_base {w : World} {B B' e size n : Nat} {v : Value} {xs : List Value} (h : w.ownsRow B e size v n xs) (hB : B' ≤ B) : w.ownsRow B' e size v n xs := by
  refine ⟨h.1, ?_⟩
  rcases h.2 with h1 | ⟨g, cap, cur, h1, h2, h3⟩
  · exact .inl h1
  · exact .inr ⟨g, cap, cur, h1, Nat.le_trans hB h2, h3⟩
/-- Rows of two types lie apart. -/
theorem kinds_ne {w : World} {B B' e e' size size' n n' : Nat} {v v' : Value} {xs ys : List Value} (h : w.ownsRow B e size v n xs) (h' : w.ownsRow B' e' size' v' n' ys) (he : e ≠ e') : v.ownBlock = none ∨ v.ownBlock ≠ v'.ownBlock := by
  rcases h.2 with ⟨rfl, _⟩ | ⟨g, cap, cur, rfl, _, h1, _⟩
  · left; rfl
  · right
    rcases h'.2 with ⟨rfl, _⟩ | ⟨g', cap', cur', rfl, _, h2, _⟩
    · intro q; cases q
    · intro q
      have q2 : g = g' := by simpa [Value.ownBlock] using q
      subst q2
      rw [h1] at h2
      injection h2 with h2
      injection h2 with _ h2
      exact he h2

/-- What a reading of a list says. -/
def GRs {β : Type} (f : List UInt8 → Option β) (cv : β → Value) (T : Nat) (B : Nat) (l : List UInt8) (e : Ending) (w' : World) : Prop := (goodL f l = none ∧ e = .returned (.tuple #[.slice none 0 0, .bool false])) ∨ (∃ (cs : List β) (A : Option Addr) (c : Nat), goodL f l = some cs ∧ e = .returned (.tuple #[.slice A cs.length c, .bool true]) ∧ w'.ownsRow B T 1 (.slice A cs.length c) cs.length (cs.map cv))
/-- What a reading of one says. -/
def OV {β : Type} (f : List UInt8 → Option β) (cv : β → Value) (l : List UInt8) (e : Ending) : Prop := (∃ b, f l = some b ∧ e = .returned (.tuple #[cv b, .bool true])) ∨ (∃ v, f l = none ∧ e = .returned (.tuple #[v, .bool false]))
def fvw (v : Nat) : Value := .float .f32 v
theorem RBs.ov {l : List UInt8} {e : Ending} (h : RBs l e) : OV goodw fvw l e := by
  cases g : goodw l with
  | none =>
    obtain ⟨x, rfl⟩ := h.none g
    exact .inr ⟨_, g, rfl⟩
  | some v => exact .inl ⟨v, g, h.some g⟩

set_option maxHeartbeats 8000000 in
set_option maxRecDepth 20000 in
theorem l01CRead_any (l : List UInt8) (w : World) (hmax : l.length ≤ 1100000) :
    Calls Tryz.prog 41 #[.string (tx l)] w fun e w' => GRs goodc cv 41 w.heap.size l e w' ∧ Below w.heap.size w w' := by
  obtain ⟨i0, hi, hz0, hz1, hz2⟩ := info_parts infoC64
  have HI := keep hi
  have HZ0 := keep hz0
  have HZ1 := keep hz1
  have HZ2 := keep hz2
  clear hi hz0 hz1 hz2
  have TS := tx_size l
  have k2 : (tx l).toList = l := by rw [Lib.toList_data, tx_bytes]
  have CU := keep (fun w => l01Cut_mk 44 (tx l) w (by omega))
  rw [tx_bytes] at CU
  have PL := parts_len 44 l []
  by_cases hnone : l = [110, 111, 110, 101]
  · have G0 := keep (show goodL goodc l = some [] by unfold goodL; rw [if_pos hnone])
    have hq : (l == [110, 111, 110, 101]) = true := by rw [hnone]; rfl
    clear hnone
    go_enter Tryz.func41, Tryz.ntmps41
    go_wp2_with fail
    go_ret2
    exact ⟨.inr ⟨[], _, 0, G0.out, rfl, World.ownsRow_made w #[] 0 (Nat.le_refl _) (by unfold maxLen; omega) rfl⟩, by go_grown⟩
  · have hq : (l == [110, 111, 110, 101]) = false := by rw [beq_eq_false_iff_ne]; exact hnone
    by_cases hbig : 256 < (parts 44 [] l).length
    · have G0 := keep (show goodL goodc l = none by unfold goodL; rw [if_neg hnone, if_pos hbig])
      have hbigI : (256 : Int) < ((parts 44 [] l).length : Int) := by omega
      clear hnone
      go_enter Tryz.func41, Tryz.ntmps41
      go_wp2_with fail
      refine (CU.out _).mono ?_
      rintro e w1 ⟨A, c, rfl, ho, hb⟩
      have HB := keep ((show Below w.heap.size w _ by go_grown).trans (hb.mono (by simp)))
      clear hb ho
      go_wp2_with fail
      go_ret2
      exact ⟨.inl ⟨G0.out, rfl⟩, HB.out⟩
    · have G0 := keep (show goodL goodc l = allOf goodc (parts 44 [] l) by unfold goodL; rw [if_neg hnone, if_neg hbig])
      have hbigI : ¬ (256 : Int) < ((parts 44 [] l).length : Int) := by omega
      clear hnone
      have PS := parts_ne 44 [] l
      have PS2 := keep (show ∀ q ∈ parts 44 [] l, q.length ≤ 1100000 from fun q hq => by
        have h := parts_sum 44 l [] q hq
        simp at h
        omega)
      generalize parts 44 [] l = ps at *
      have PLs : ps.length ≤ 256 := by omega
      clear PL hmax hbig TS
      go_enter Tryz.func41, Tryz.ntmps41
      go_wp2_with fail
      refine (CU.out _).mono ?_
      rintro e w1 ⟨PA, pc, rfl, ho, hb⟩
      have OW := keep (owns_below (World.ownsRow_made w (e := 41) (size := 1) #[] 0 (Nat.le_refl _) (by unfold maxLen; omega) rfl) hb)
      have OP := keep (own_base ho (B' := w.heap.size) (by simp))
      have HB := keep ((show Below w.heap.size w _ by go_grown).trans (hb.mono (by simp)))
      obtain ⟨g, pc2, e1, _, _⟩ := ho.form (by have : ps.length ≠ 0 := fun e => PS (List.eq_nil_of_length_eq_zero e); omega)
      injection e1 with e1 e2 e3
      subst e1
      subst e3
      clear hb ho CU
      go_wp2_with fail
      go_loopw [4, 6] (fun o t wr => ∃ (dn : List (Nat × Nat)) (i : Nat) (A : Option Addr) (c : Nat), o = .slice A dn.length c ∧ t = .int .i64 i ∧ i ≤ ps.length ∧ dn.length = i ∧ Kept (allOf goodc ps = (allOf goodc (ps.drop i)).map (dn ++ ·)) ∧ Kept (wr.ownsRow w.heap.size 41 1 (.slice A dn.length c) dn.length (dn.map cv)) ∧ Kept (wr.ownsRow w.heap.size 9 1 (.slice (some ⟨g, 0, none⟩) ps.length pc) ps.length (sv (ps.map tx))) ∧ Kept (Below w.heap.size w wr)) (fun _ t _ => ps.length - (intOf t).toNat)
      case atStart => exact ⟨[], 0, _, _, rfl, rfl, by omega, rfl, keep (by cases h : allOf goodc ps <;> simp [h]), OW, OP, HB⟩
      case round =>
        clear OW OP HB
        obtain ⟨dn, i, A, c, rfl, rfl, hi, hdl, hR, ho, hp, hb⟩ := hrel
        have hb0 := hb.out.size
        by_cases hlt : i < ps.length
        · have hltI : (i : Int) < (ps.length : Int) := by omega
          have hcell : wr.cell? ⟨g, i, none⟩ = some (.string (tx ps[i])) := by
            have h := hp.out.cells (g := g) rfl i (.string (tx ps[i])) (by
              unfold sv
              rw [List.map_map, List.getElem?_map, List.getElem?_eq_getElem hlt]; rfl)
            rwa [Addr.add_lit, Nat.zero_add] at h
          have hdr : ps.drop i = ps[i] :: ps.drop (i + 1) := List.drop_eq_getElem_cons hlt
          have R2 := keep (show allOf goodc ps = (allOf goodc (ps[i] :: ps.drop (i + 1))).map (dn ++ ·) by rw [← hdr]; exact hR.out)
          have TP := tx_size ps[i]
          clear hdr hR
          generalize ps[i] = p at *
          by_cases h16 : p.length = 16
          · have hs16 : (tx p).size = 16 := by omega
            have E1 : (tx p).extract 0 8 = tx (p.take 8) := by rw [tx_piece, tx_bytes, List.drop_zero]
            have E2 : (tx p).extract 8 16 = tx (p.drop 8) := by rw [tx_piece, tx_bytes, List.take_of_length_le (by rw [List.length_drop]; omega)]
            have L1 := keep (fun w => l01Digits_8 (p.take 8) w (by rw [List.length_take]; omega))
            have L2 := keep (fun w => l01Digits_8 (p.drop 8) w (by rw [List.length_drop]; omega))
            have GC := keep (show goodc p = (match goodw (p.take 8), goodw (p.drop 8) with | some a, some b => some (a, b) | _, _ => none) by unfold goodc; rw [if_pos h16])
            clear TP h16
            generalize tx p = s at *
            cases g1 : goodw (p.take 8) with
            | none =>
              rw [g1] at GC
              have R3 := keep (show allOf goodc ps = none by rw [R2.out, allOf_none GC.out]; rfl)
              clear R2 GC
              go_wp2_with fail
              refine (L1.out _).mono ?_
              rintro e w4 ⟨hr, hw4⟩
              have hw4 := hw4.symm
              subst hw4
              obtain ⟨x1, rfl⟩ := hr.none g1
              clear hr
              go_wp2_with fail
              refine (L2.out _).mono ?_
              rintro e w4 ⟨hr, hw4⟩
              have hw4 := hw4.symm
              subst hw4
              obtain ⟨x2, b2, _, _, _, rfl⟩ := hr
              go_wp2_with fail
              go_ret2
              exact ⟨.inl ⟨G0.out.trans R3.out, rfl⟩, hb.out⟩
            | some a =>
              cases g2 : goodw (p.drop 8) with
              | none =>
                rw [g1, g2] at GC
                have R3 := keep (show allOf goodc ps = none by rw [R2.out, allOf_none GC.out]; rfl)
                clear R2 GC
                go_wp2_with fail
                refine (L1.out _).mono ?_
                rintro e w4 ⟨hr, hw4⟩
                have hw4 := hw4.symm
                subst hw4
                have hr2 := hr.some g1
                clear hr
                subst hr2
                go_wp2_with fail
                refine (L2.out _).mono ?_
                rintro e w4 ⟨hr, hw4⟩
                have hw4 := hw4.symm
                subst hw4
                obtain ⟨x2, rfl⟩ := hr.none g2
                clear hr
                go_wp2_with fail
                go_ret2
                exact ⟨.inl ⟨G0.out.trans R3.out, rfl⟩, hb.out⟩
              | some b =>
                rw [g1, g2] at GC
                have R3 := keep (show allOf goodc ps = (allOf goodc (ps.drop (i + 1))).map ((dn ++ [(a, b)]) ++ ·) by
                  rw [R2.out, allOf_some GC.out, Option.map_map]
                  congr 1
                  funext q
                  simp)
                clear R2 GC
                have hdn : dn.length < 256 := by omega
                have HD := keep hdl
                clear hdl
                go_wp2_with fail
                refine (L1.out _).mono ?_
                rintro e w4 ⟨hr, hw4⟩
                have hw4 := hw4.symm
                subst hw4
                have hr2 := hr.some g1
                clear hr
                subst hr2
                go_wp2_with fail
                refine (L2.out _).mono ?_
                rintro e w4 ⟨hr, hw4⟩
                have hw4 := hw4.symm
                subst hw4
                have hr2 := hr.some g2
                clear hr
                subst hr2
                go_wp2_with (at_builtin; go_loud (refine wpList_append_own_at _ rfl _ _ 62 rfl w.heap.size 41 i0 _ 1 8 Tryz.underlying62 HI.out HZ0.out HZ1.out HZ2.out rfl (by decide) (.slice A dn.length c) dn.length _ rfl (ho.out.alloc _) ⟨wr.heap.size, 0, none⟩ 1 1 [cv (a, b)] rfl rfl ?c1 ?c2 ?c3 ?c4 ?c5 ?_))
                case c1 => exact new_cell
                case c2 => intro u hu; simp only [List.mem_cons, List.not_mem_nil, or_false] at hu; subst hu; rfl
                case c3 => unfold maxLen; omega
                case c4 => omega
                case c5 => simp only [World.size_alloc]; omega
                intro v' w4 hown' hgrow _ _
                obtain ⟨g', cap', rfl, hB', hlt'⟩ := hown'.form (by omega)
                have hb4 := keep ((hb.out.alloc hb0 (.cells #[cv (a, b)] 41)).grown hgrow (by simp only [World.size_alloc]; omega) (fun g e => by have := ((ho.out.alloc (.cells #[cv (a, b)] 41)).lt g e).1; omega))
                have HP := keep ((hp.out.alloc (.cells #[cv (a, b)] 41)).kept hgrow (kinds_ne hp.out ho.out (by decide)))
                have HO := keep hown'
                clear hown' hgrow
                go_wp2_with fail
                go_roundw
                case rel => exact ⟨dn ++ [(a, b)], i + 1, _, _, by rw [List.length_append]; rfl, by go_num, by omega, by rw [List.length_append, HD.out]; rfl, R3, keep (by
                  have e := HO.out
                  rw [List.length_append, List.map_append]
                  exact e), HP, hb4⟩
                case measure => simp [intOf]; omega
          · have q16 : (((tx p).size : Int) != 16) = true := by rw [bne_iff_ne]; omega
            have R3 := keep (show allOf goodc ps = none by rw [R2.out, allOf_none (show goodc p = none by unfold goodc; rw [if_neg h16])]; rfl)
            go_wp2_with fail
            go_ret2
            exact ⟨.inl ⟨G0.out.trans R3.out, rfl⟩, hb.out⟩
        · have hlt2 : ¬ (i : Int) < (ps.length : Int) := by omega
          have R3 := keep (show allOf goodc ps = some dn by
            have h := hR.out
            rw [List.drop_eq_nil_of_le (by omega)] at h
            rw [h]; simp [allOf])
          go_wp2_with fail
          go_ret2
          exact ⟨.inr ⟨dn, A, c, G0.out.trans R3.out, by rw [hdl]; rfl, ho.out⟩, hb.out⟩
end Go.Proofs.YtdkjaffnkgbcnaaGreatDoor
