/- Contract: a text cut at any mark. -/
import Derived.Test.YtdkjaffnkgbcnaaGreatDoorUd
namespace Go.Proofs.YtdkjaffnkgbcnaaGreatDoor
open Go.RowKit Go.Sort
set_option linter.unusedSimpArgs false

set_option maxHeartbeats 4000000 in
set_option maxRecDepth 20000 in
theorem l01Cut_mk (mk : UInt8) (s : ByteArray) (w : World) (hs : s.size ≤ 1100000) :
    Calls Tryz.prog 20 #[.string s, .int .u8 mk.toNat] w fun e w' => ∃ (A : Option Addr) (c : Nat), e = .returned (.slice A (parts mk [] s.data.toList).length c) ∧ w'.ownsRow w.heap.size 9 1 (.slice A (parts mk [] s.data.toList).length c) (parts mk [] s.data.toList).length (sv ((parts mk [] s.data.toList).map tx)) ∧ Below w.heap.size w w' := by
  obtain ⟨i0, hi, hz0, hz1, hz2⟩ := info_parts infoString
  have HI := keep hi
  have HZ0 := keep hz0
  have HZ1 := keep hz1
  have HZ2 := keep hz2
  clear hi hz0 hz1 hz2
  go_enter Tryz.func20, Tryz.ntmps20
  go_wp2_with fail
  go_loopw [5, 6, 7] (fun o f t wr => ∃ (dn : List (List UInt8)) (k i : Nat) (A : Option Addr) (c : Nat), o = .slice A dn.length c ∧ f = .int .i64 k ∧ t = .int .i64 i ∧ i ≤ s.size + 1 ∧ dn.length ≤ i ∧ Kept ((i ≤ s.size ∧ k ≤ i ∧ dn ++ parts mk ((s.data.toList.drop k).take (i - k)) (s.data.toList.drop i) = parts mk [] s.data.toList) ∨ (i = s.size + 1 ∧ dn = parts mk [] s.data.toList)) ∧ Kept (wr.ownsRow w.heap.size 9 1 (.slice A dn.length c) dn.length (sv (dn.map tx))) ∧ Kept (Below w.heap.size w wr)) (fun _ _ t _ => s.size + 1 - (intOf t).toNat)
  case atStart => exact ⟨[], 0, 0, _, _, rfl, rfl, rfl, by omega, by simp, keep (.inl ⟨by omega, by omega, by simp⟩), keep (World.ownsRow_made w #[] 0 (Nat.le_refl _) (by unfold maxLen; omega) rfl), keep (by go_grown)⟩
  case round =>
    obtain ⟨dn, k, i, A, c, rfl, rfl, rfl, hi, hdl, hrel, ho, hb⟩ := hrel
    have hb0 := hb.out.size
    by_cases hend : i = s.size + 1
    · have HR := keep (show dn = parts mk [] s.data.toList by
        rcases hrel.out with ⟨h1, _⟩ | ⟨_, h2⟩
        · omega
        · exact h2)
      have hle : ¬ ((i : Int) ≤ (s.size : Int)) := by omega
      have hlt2 : ((s.size : Int) < (i : Int)) := by omega
      clear hrel
      go_wp2_with fail
      go_ret
      have e := HR.out
      subst e
      exact ⟨A, c, rfl, ho.out, hb.out⟩
    · have hle : ((i : Int) ≤ (s.size : Int)) := by omega
      have HR := keep (show k ≤ i ∧ dn ++ parts mk ((s.data.toList.drop k).take (i - k)) (s.data.toList.drop i) = parts mk [] s.data.toList by
        rcases hrel.out with ⟨_, h2⟩ | ⟨h1, _⟩
        · exact h2
        · omega)
      have hki := HR.out.1
      clear hrel
      have hdn : dn.length ≤ 1100000 := by omega
      by_cases hlast : i = s.size
      · have hq : ((i : Int) == (s.size : Int)) = true := by rw [hlast]; simp
        have hki2 : (k : Int) ≤ (i : Int) := by omega
        have PX := keep (tx_piece s k s.size)
        have LA := keep (show dn ++ [(s.data.toList.drop k).take (s.size - k)] = parts mk [] s.data.toList by
          have h := HR.out.2
          rw [hlast, show s.data.toList.drop s.size = [] from List.drop_eq_nil_of_le (by rw [bytes_len]; omega)] at h
          exact h)

        go_wp2_with (at_builtin; go_loud (refine wpList_append_own_at _ rfl _ _ 33 rfl w.heap.size 9 i0 _ 1 16 Tryz.underlying33 HI.out HZ0.out HZ1.out HZ2.out rfl (by decide) (.slice A dn.length c) dn.length _ rfl (ho.out.alloc _) ⟨wr.heap.size, 0, none⟩ 1 1 [.string (s.extract k s.size)] rfl rfl ?c1 ?c2 ?c3 ?c4 ?c5 ?_))
        case c1 => exact new_cell
        case c2 => intro u hu; simp only [List.mem_cons, List.not_mem_nil, or_false] at hu; subst hu; rfl
        case c3 => unfold maxLen; omega
        case c4 => omega
        case c5 => simp only [World.size_alloc]; omega
        intro v' w4 hown' hgrow _ _
        obtain ⟨g', cap', rfl, hB', hlt'⟩ := hown'.form (by omega)
        have hb4 := keep ((hb.out.alloc hb0 (.cells #[.string (s.extract k s.size)] 9)).grown hgrow (by simp only [World.size_alloc]; omega) (fun g e => by have := ((ho.out.alloc (.cells #[.string (s.extract k s.size)] 9)).lt g e).1; omega))
        have HO := keep hown'
        clear hown' hgrow
        go_wp2_with fail
        go_roundw
        case rel => exact ⟨dn ++ [(s.data.toList.drop k).take (s.size - k)], i + 1, i + 1, _, _, by rw [List.length_append]; rfl, by go_num, by go_num, by omega, by rw [List.length_append]; show dn.length + 1 ≤ i + 1; omega, keep (.inr ⟨by omega, LA.out⟩), keep (by
          have e := HO.out
          rw [sv_snoc, List.length_append]
          first | exact e | (rw [← PX.out]; exact e)), hb4⟩
        case measure => simp [intOf]; omega
      · have his : i < s.size := by omega
        have hq : ((i : Int) == (s.size : Int)) = false := by rw [beq_eq_false_iff_ne]; omega
        have hiI : (i : Int) < (s.size : Int) := by omega
        have hby : (s[i].toNat : Int) < 256 := by have := s[i].toNat_lt; omega
        have hdr : s.data.toList.drop i = s[i] :: s.data.toList.drop (i + 1) := List.drop_eq_getElem_cons (by rw [bytes_len]; omega)
        have hki2 : (k : Int) ≤ (i : Int) := by omega
        by_cases hm : s[i] = mk
        · have hq2 : ((s[i].toNat : Int) == (mk.toNat : Int)) = true := by rw [hm]; simp
          have PX := keep (tx_piece s k i)
          have LA := keep (show (dn ++ [(s.data.toList.drop k).take (i - k)]) ++ parts mk [] (s.data.toList.drop (i + 1)) = parts mk [] s.data.toList by
            have h := HR.out.2
            rw [hdr, hm, parts_cons, if_pos rfl] at h
            rw [← h, List.append_assoc]; rfl)
          clear hm hdr

          go_wp2_with (at_builtin; go_loud (refine wpList_append_own_at _ rfl _ _ 33 rfl w.heap.size 9 i0 _ 1 16 Tryz.underlying33 HI.out HZ0.out HZ1.out HZ2.out rfl (by decide) (.slice A dn.length c) dn.length _ rfl (ho.out.alloc _) ⟨wr.heap.size, 0, none⟩ 1 1 [.string (s.extract k i)] rfl rfl ?c1 ?c2 ?c3 ?c4 ?c5 ?_))
          case c1 => exact new_cell
          case c2 => intro u hu; simp only [List.mem_cons, List.not_mem_nil, or_false] at hu; subst hu; rfl
          case c3 => unfold maxLen; omega
          case c4 => omega
          case c5 => simp only [World.size_alloc]; omega
          intro v' w4 hown' hgrow _ _
          obtain ⟨g', cap', rfl, hB', hlt'⟩ := hown'.form (by omega)
          have hb4 := keep ((hb.out.alloc hb0 (.cells #[.string (s.extract k i)] 9)).grown hgrow (by simp only [World.size_alloc]; omega) (fun g e => by have := ((ho.out.alloc (.cells #[.string (s.extract k i)] 9)).lt g e).1; omega))
          have HO := keep hown'
          clear hown' hgrow
          go_wp2_with fail
          go_roundw
          case rel => exact ⟨dn ++ [(s.data.toList.drop k).take (i - k)], i + 1, i + 1, _, _, by rw [List.length_append]; rfl, by go_num, by go_num, by omega, by rw [List.length_append]; show dn.length + 1 ≤ i + 1; omega, keep (.inl ⟨by omega, by omega, by rw [Nat.sub_self, List.take_zero]; exact LA.out⟩), keep (by
            have e := HO.out
            rw [sv_snoc, List.length_append]
            first | exact e | (rw [← PX.out]; exact e)), hb4⟩
          case measure => simp [intOf]; omega
        · have hq2 : ((s[i].toNat : Int) == (mk.toNat : Int)) = false := by
            rw [beq_eq_false_iff_ne]
            intro e
            exact hm (UInt8.toNat_inj.1 (by show s[i].toNat = mk.toNat; omega))
          have LA := keep (show dn ++ parts mk ((s.data.toList.drop k).take (i + 1 - k)) (s.data.toList.drop (i + 1)) = parts mk [] s.data.toList by
            have h := HR.out.2
            rw [hdr, parts_cons, if_neg hm] at h
            rw [take_more _ k i hki (by rw [bytes_len]; omega)]
            exact h)
          clear hm hdr
          go_wp2_with fail
          go_roundw
          case rel => exact ⟨dn, k, i + 1, A, c, rfl, rfl, by go_num, by omega, by omega, keep (.inl ⟨by omega, by omega, LA.out⟩), ho, hb⟩
          case measure => simp [intOf]; omega
end Go.Proofs.YtdkjaffnkgbcnaaGreatDoor
