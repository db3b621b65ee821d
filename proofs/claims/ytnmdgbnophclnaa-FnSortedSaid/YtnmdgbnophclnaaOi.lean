/- Contracts: numbers sorted; a cloud permuted. -/
import Derived.Test.YtnmdgbnophclnaaOh
namespace Go.Proofs.Ytnmdgbnophclnaa
open Go.RowKit Go.Sort Ieee
set_option linter.unusedSimpArgs false
set_option linter.unusedVariables false

theorem LessI_ok (a b : Nat) (w : World) : Calls Try.prog 138 #[.int .i64 a, .int .i64 b] w fun e w' => e = .returned (.bool (decide (a < b))) ∧ w' = w := by
  have NA := keep (fun a w => isNaNI_ok a w)
  go_enter Try.func138, Try.ntmps138
  go_wp2_with ((with_reducible refine (NA.out _ _).mono ?_); rintro e w' ⟨rfl, rfl⟩)
  go_ret
  exact ⟨rfl, rfl⟩

theorem tie_nodup {o : List Nat} (h : o.Nodup) : o.Pairwise (fun a b => id a = id b → a < b) := h.imp fun {a b} hne e => absurd e hne
theorem nList_set (d : List Nat) (j p : Nat) : (nList d).set j (.int .i64 (p : Int)) = nList (d.set j p) := by
  unfold nList
  rw [List.map_set]

set_option maxHeartbeats 4000000 in
set_option maxRecDepth 20000 in
theorem insOrd_ok (o : List Nat) (B g c n : Nat) (hno : o.length = n) (w : World) (hh : w.ownsRow B 2 1 (.slice (some ⟨g, 0, none⟩) n c) n (nList o)) (hdup : o.Nodup) (hn : n ≤ 1000) :
    Calls Try.prog 132 #[.slice (some ⟨g, 0, none⟩) n c, .int .i64 0, .int .i64 n] w fun e w' => e = .returned (.tuple #[]) ∧ ∃ d, d.Perm o ∧ d.Pairwise (Ord id) ∧ w'.ownsRow B 2 1 (.slice (some ⟨g, 0, none⟩) n c) n (nList d) ∧ w.grownBy w' (some g) := by
  have HH := keep hh
  have TI := keep (fun i (hi : i < o.length) => tie_at (tie_nodup hdup) hi)
  have LS := keep (fun a b w => LessI_ok a b w)
  have G0 := keep (World.grownBy.refl w (some g))
  clear hh hdup
  go_enter Try.func132, Try.ntmps132
  go_wp2_with fail
  go_loopw [6] (fun s wr => ∃ (i : Nat) (d : List Nat), 1 ≤ i ∧ i ≤ n + 1 ∧ s = .int .i64 i ∧ Kept (SortTo id o i d) ∧ Kept (wr.ownsRow B 2 1 (.slice (some ⟨g, 0, none⟩) n c) n (nList d)) ∧ Kept (w.grownBy wr (some g))) (fun s _ => n + 1 - (intOf s).toNat)
  case atStart => exact ⟨1, o, Nat.le_refl _, by omega, rfl, keep (SortTo.first id o), HH, G0⟩
  case round =>
    clear HH G0
    obtain ⟨i, d, hi1, hi2, rfl, hs, hd, hg⟩ := hrel
    by_cases hlt : i < n
    · have hb := hs.out.begin (by omega)
      have HB := keep hb
      have TE := keep (TI.out i (by omega))
      clear hb hs
      generalize o[i]'(by omega) = e at *
      go_wp2_with fail
      go_loopw [7] (fun s wr => ∃ (j : Nat) (d : List Nat), s = .int .i64 j ∧ Kept (SortIn id o i j e d) ∧ Kept (wr.ownsRow B 2 1 (.slice (some ⟨g, 0, none⟩) n c) n (nList d)) ∧ Kept (w.grownBy wr (some g))) (fun s _ => (intOf s).toNat)
      case atStart => exact ⟨i, d, rfl, HB, hd, hg⟩
      case round =>
        clear HB hd hg
        obtain ⟨j, d, rfl, hs, hd, hg⟩ := hrel
        have hll := hs.out.len
        have hjl := hs.out.lt
        cases j with
        | zero =>
          have HN := keep (hs.out.stop TE.out (.inl rfl))
          clear LS
          go_wp2_with fail
          go_quiet (fail)
          go_wp2_with fail
          exact ⟨⟨i + 1, d, by omega, by omega, by go_num, HN, keep (owns_below hd.out (Below.drewN _ _ _)), keep (gb_drawn hg.out nq)⟩, by simp [intOf]; omega⟩
        | succ j =>
          obtain ⟨p, hp⟩ : ∃ p, d[j]? = some p := ⟨_, List.getElem?_eq_getElem (by omega)⟩
          have he := hs.out.at
          have ce := (hd.out.cellAt (j + 1) (by omega)).trans (show (nList d)[j + 1]? = some (.int .i64 (e : Int)) by
            unfold nList
            rw [List.getElem?_map, he]; rfl)
          have cp := (hd.out.cellAt j (by omega)).trans (show (nList d)[j]? = some (.int .i64 (p : Int)) by
            unfold nList
            rw [List.getElem?_map, hp]; rfl)
          have ue := hd.out.frozenAt (j + 1)
          have up := hd.out.frozenAt j
          have hjn : ((j + 1 : Nat) : Int) < (n : Int) := by omega
          by_cases hk : e < p
          · have CC := keep (fun w => (decide_eq_true hk ▸ LS.out e p w : Calls Try.prog 138 #[.int .i64 e, .int .i64 p] w fun e w' => e = .returned (.bool true) ∧ w' = w))
            have HN := keep (hs.out.step hp hk)
            clear hs he hp hk
            go_wp2_with fail
            go_quiet (first | (go_at_call 138; exact Calls.quiet_of_same (CC.out _)))
            go_wp2_with fail
            have HD : Kept (((wr.setCell ⟨g, j + 1, none⟩ (.int .i64 (p : Int))).setCell ⟨g, j, none⟩ (.int .i64 (e : Int))).ownsRow B 2 1 (.slice (some ⟨g, 0, none⟩) n c) n (nList ((d.set (j + 1) p).set j e))) := keep (by
              rw [← nList_set, ← nList_set]
              exact ((hd.out.stored (j + 1) (.int .i64 (p : Int))).1.stored j (.int .i64 (e : Int))).1)
            have HG := keep (gb_store (gb_store hg.out (j + 1) (.int .i64 (p : Int))) j (.int .i64 (e : Int)))
            clear CC LS TE TI hd hg
            go_region
            all_goals (go_wp2_with fail)
            all_goals exact ⟨⟨j, _, rfl, HN, keep (owns_below HD.out (Below.drewN _ _ _)), keep (gb_drawn HG.out _)⟩, by simp [intOf]⟩
          · have CC := keep (fun w => (decide_eq_false hk ▸ LS.out e p w : Calls Try.prog 138 #[.int .i64 e, .int .i64 p] w fun e w' => e = .returned (.bool false) ∧ w' = w))
            have HN := keep (hs.out.stop TE.out (.inr ⟨p, hp, hk⟩))
            clear hs he hp hk
            go_wp2_with fail
            go_quiet (first | (go_at_call 138; exact Calls.quiet_of_same (CC.out _)))
            go_wp2_with fail
            exact ⟨⟨i + 1, d, by omega, by omega, by go_num, HN, keep (owns_below hd.out (Below.drewN _ _ _)), keep (gb_drawn hg.out nq)⟩, by simp [intOf]; omega⟩
    · have HE := keep (hs.out.end (by omega))
      go_wp2_with fail
      go_end0
      exact ⟨rfl, d, HE.out.1, HE.out.2, hd.out, hg.out⟩

set_option maxHeartbeats 4000000 in
set_option maxRecDepth 20000 in
theorem pdqOrd_ok (o : List Nat) (B g c n : Nat) (hno : o.length = n) (w : World) (hh : w.ownsRow B 2 1 (.slice (some ⟨g, 0, none⟩) n c) n (nList o)) (hdup : o.Nodup) (hn : n ≤ 12) (k : Int) :
    Calls Try.prog 122 #[.slice (some ⟨g, 0, none⟩) n c, .int .i64 0, .int .i64 n, .int .i64 k] w fun e w' => e = .returned (.tuple #[]) ∧ ∃ d, d.Perm o ∧ d.Pairwise (Ord id) ∧ w'.ownsRow B 2 1 (.slice (some ⟨g, 0, none⟩) n c) n (nList d) ∧ w.grownBy w' (some g) := by
  have IC := keep (insOrd_ok o B g c n hno w hh hdup (by omega))
  have h1 : (n : Int) ≤ 12 := by omega
  clear hh hdup
  go_enter Try.func122, Try.ntmps122
  go_wp2_with fail
  go_loopw [1, 2, 3, 8, 9] (fun s1 s2 s3 s t wr => s1 = .int .i64 0 ∧ s2 = .int .i64 n ∧ s3 = .int .i64 k ∧ s = .bool true ∧ t = .bool true ∧ wr = w) (fun _ _ _ _ _ _ => 0)
  case atStart => exact ⟨rfl, rfl, rfl, rfl, rfl, rfl⟩
  case round =>
    obtain ⟨rfl, rfl, rfl, rfl, rfl, rfl⟩ := hrel
    go_wp2_with fail
    refine IC.out.mono ?_
    rintro e w' ⟨rfl, d, h2, h3, h4, h5⟩
    have H2 := keep h2
    have H3 := keep h3
    have H4 := keep h4
    have H5 := keep h5
    clear h2 h3 h4 h5 IC
    go_wp2_with fail
    refine bodyPost_ret (results_none rfl _ _ _) rfl ?_
    exact ⟨rfl, d, H2.out, H3.out, H4.out, H5.out⟩

set_option maxHeartbeats 4000000 in
set_option maxRecDepth 20000 in
theorem SortI_ok (o : List Nat) (B g c n : Nat) (hno : o.length = n) (w : World) (hh : w.ownsRow B 2 1 (.slice (some ⟨g, 0, none⟩) n c) n (nList o)) (hdup : o.Nodup) (hn : n ≤ 12) :
    Calls Try.prog 95 #[.slice (some ⟨g, 0, none⟩) n c] w fun e w' => e = .returned (.tuple #[]) ∧ ∃ d, d.Perm o ∧ d.Pairwise (Ord id) ∧ w'.ownsRow B 2 1 (.slice (some ⟨g, 0, none⟩) n c) n (nList d) ∧ w.grownBy w' (some g) := by
  have PD := keep (fun k => pdqOrd_ok o B g c n hno w hh hdup hn k)
  have BL := keep (fun w => Try.bits_Len (n : Int) w (by omega) (by omega))
  have h1 : IntKind.u64.wrap (n : Int) = (n : Int) := by
    have : n = 0 ∨ n = 1 ∨ n = 2 ∨ n = 3 ∨ n = 4 ∨ n = 5 ∨ n = 6 ∨ n = 7 ∨ n = 8 ∨ n = 9 ∨ n = 10 ∨ n = 11 ∨ n = 12 := by omega
    rcases this with rfl | rfl | rfl | rfl | rfl | rfl | rfl | rfl | rfl | rfl | rfl | rfl | rfl <;> decide
  clear hh hdup
  go_enter Try.func95, Try.ntmps95
  go_wp2_with (first
    | (go_at_call 123; refine (BL.out _).mono ?_; rintro e w' ⟨rfl, rfl⟩)
    | (go_at_call 122; refine (PD.out _).mono ?_; rintro e w' ⟨rfl, d, h2, h3, h4, h5⟩; have H2 := keep h2; have H3 := keep h3; have H4 := keep h4; have H5 := keep h5; clear h2 h3 h4 h5 PD BL))
  go_end0
  exact ⟨rfl, d, H2.out, H3.out, H4.out, H5.out⟩

set_option maxHeartbeats 4000000 in
set_option maxRecDepth 20000 in
theorem SortNil_ok (w : World) :
    Calls Try.prog 95 #[.slice none 0 0] w fun e w' => e = .returned (.tuple #[]) ∧ w' = w := by
  have IC : Kept (Calls Try.prog 132 #[.slice none 0 0, .int .i64 0, .int .i64 0] w fun e w' => e = .returned (.tuple #[]) ∧ w' = w) := keep (by
    go_enter Try.func132, Try.ntmps132
    go_wp2_with fail
    go_loopw [6] (fun s wr => s = .int .i64 1 ∧ wr = w) (fun _ _ => 0)
    case atStart => exact ⟨rfl, rfl⟩
    case round =>
      obtain ⟨rfl, rfl⟩ := hrel
      go_wp2_with fail
      go_end0
      exact ⟨rfl, rfl⟩)
  have PD : Kept (∀ k : Int, Calls Try.prog 122 #[.slice none 0 0, .int .i64 0, .int .i64 0, .int .i64 k] w fun e w' => e = .returned (.tuple #[]) ∧ w' = w) := keep (fun k => by
    go_enter Try.func122, Try.ntmps122
    go_wp2_with fail
    go_loopw [1, 2, 3, 8, 9] (fun s1 s2 s3 s t wr => s1 = .int .i64 0 ∧ s2 = .int .i64 0 ∧ s3 = .int .i64 k ∧ s = .bool true ∧ t = .bool true ∧ wr = w) (fun _ _ _ _ _ _ => 0)
    case atStart => exact ⟨rfl, rfl, rfl, rfl, rfl, rfl⟩
    case round =>
      obtain ⟨rfl, rfl, rfl, rfl, rfl, rfl⟩ := hrel
      go_wp2_with fail
      refine IC.out.mono ?_
      rintro e w' ⟨rfl, rfl⟩
      go_wp2_with fail
      refine bodyPost_ret (results_none rfl _ _ _) rfl ?_
      exact ⟨rfl, rfl⟩)
  have BL := keep (fun w => Try.bits_Len 0 w (by omega) (by omega))
  clear IC
  go_enter Try.func95, Try.ntmps95
  go_wp2_with (first
    | (go_at_call 123; refine (BL.out _).mono ?_; rintro e w' ⟨rfl, rfl⟩)
    | (go_at_call 122; refine (PD.out _).mono ?_; rintro e w' ⟨rfl, rfl⟩; clear PD BL))
  go_end0
  exact ⟨rfl, rfl⟩

set_option maxHeartbeats 4000000 in
set_option maxRecDepth 20000 in
theorem SortedI_ok (Bs b cap : Nat) (zs : List Nat) (hN : zs.length ≤ 12) (hp : zs.Perm (List.range zs.length)) (w : World) (hBs : Bs < w.heap.size) (hb : b < w.heap.size)
    (hc : w.cell? ⟨Bs, 0, none⟩ = some (.slice (some ⟨b, 0, none⟩) zs.length cap)) (hI : ∀ j (h : j < zs.length), w.cell? ⟨b, j, none⟩ = some (.int .i64 (zs[j] : Int))) :
    Calls Try.prog 52 #[.func (.func 96) #[] #[.pointer (some ⟨Bs, 0, none⟩)]] w fun e W' => ∃ v, e = .returned v ∧ W'.ownsRow w.heap.size 2 1 v zs.length (nList (List.range zs.length)) ∧ Below w.heap.size w W' := by
  have CO := keep (Collect_ok Bs b cap zs (by omega) w hBs hb hc hI)
  have ND : zs.Nodup := (hp.nodup_iff).2 List.nodup_range
  have SO := keep (fun B g c w h => SortI_ok zs B g c zs.length rfl w h ND hN)
  have RO := keep (fun (d : List Nat) (h1 : d.Perm zs) h2 => range_of (h1.trans hp) h2)
  clear hc hI ND hp
  have SN := keep (fun w => SortNil_ok w)
  go_enter Try.func52, Try.ntmps52
  go_wp2_with fail
  refine CO.out.mono ?_
  rintro e w1 ⟨v, rfl, hr, hbl⟩
  have B1 := keep hbl
  have HR := keep hr
  have hv : (v = .slice none 0 0 ∧ zs.length = 0) ∨ ∃ g c, v = .slice (some ⟨g, 0, none⟩) zs.length c ∧ w.heap.size ≤ g := by
    rcases hr.2 with ⟨e, h0⟩ | ⟨g, c, _, e, h1, _⟩
    · exact .inl ⟨e, h0⟩
    · exact .inr ⟨g, c, e, h1⟩
  clear hr hbl CO
  rcases hv with ⟨rfl, h0⟩ | ⟨g, c, rfl, hg1⟩
  · have zn : zs = [] := List.eq_nil_of_length_eq_zero h0
    subst zn
    clear SO RO
    go_wp2_with fail
    refine (SN.out _).mono ?_
    rintro e w2 ⟨rfl, rfl⟩
    go_wp2_with fail
    go_ret
    exact ⟨_, rfl, HR.out, B1.out⟩
  · have SS := keep (SO.out _ g c w1 HR.out)
    clear SO SN
    go_wp2_with fail
    refine SS.out.mono ?_
    rintro e w2 ⟨rfl, d, h2, h3, h4, h5⟩
    obtain rfl := RO.out d h2 h3
    have H4 := keep h4
    have B2 := keep (B1.out.grown h5 B1.out.size (fun k e => by injection e with e; omega))
    clear h2 h3 h4 h5 SS
    go_wp2_with fail
    go_ret
    exact ⟨_, rfl, H4.out, B2.out⟩
end Go.Proofs.Ytnmdgbnophclnaa
