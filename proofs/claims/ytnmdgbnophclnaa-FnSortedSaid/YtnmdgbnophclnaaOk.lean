/- Contracts: the counts and the starts of all cells, the particles of a cell, the fullest cell, equal clouds. -/
import Derived.Test.YtnmdgbnophclnaaOj
namespace Go.Proofs.Ytnmdgbnophclnaa
open Go.RowKit Go.Sort Ieee
set_option linter.unusedSimpArgs false
set_option linter.unusedVariables false

/-- One more in a cell. -/
def bump (cs : List Nat) (c : Nat) : List Nat := cs.set c (cs.getD c 0 + 1)
def cntK (n : Nat) (ks : List Nat) : List Nat := ks.foldl bump (List.replicate n 0)
theorem bump_length (cs : List Nat) (c : Nat) : (bump cs c).length = cs.length := List.length_set
theorem foldl_bump_length (ks : List Nat) : ∀ cs : List Nat, (ks.foldl bump cs).length = cs.length := by
  induction ks with
  | nil => intro cs; rfl
  | cons k ks ih => intro cs; rw [List.foldl_cons, ih, bump_length]
theorem cntK_length (n : Nat) (ks : List Nat) : (cntK n ks).length = n := by unfold cntK; rw [foldl_bump_length, List.length_replicate]
theorem bump_getD (cs : List Nat) (c k : Nat) (hc : c < cs.length) : (bump cs c).getD k 0 = cs.getD k 0 + (if c = k then 1 else 0) := by
  unfold bump
  rw [List.getD_eq_getElem?_getD, List.getElem?_set]
  by_cases h : c = k
  · subst h; rw [if_pos rfl, if_pos hc, if_pos rfl]; rfl
  · rw [if_neg h, if_neg h, ← List.getD_eq_getElem?_getD]; rfl
theorem foldl_bump_getD (ks : List Nat) : ∀ (cs : List Nat), (∀ k ∈ ks, k < cs.length) → ∀ k, (ks.foldl bump cs).getD k 0 = cs.getD k 0 + ks.count k := by
  induction ks with
  | nil => intro cs _ k; rfl
  | cons c ks ih =>
    intro cs h k
    rw [List.foldl_cons, ih _ (fun x hx => by rw [bump_length]; exact h x (List.mem_cons_of_mem _ hx)), bump_getD _ _ _ (h c (List.mem_cons_self ..)), List.count_cons]
    by_cases e : c = k
    · subst e; simp; omega
    · rw [if_neg e, if_neg (by simpa using e)]; omega
theorem cntK_getD (n : Nat) (ks : List Nat) (h : ∀ k ∈ ks, k < n) (k : Nat) : (cntK n ks).getD k 0 = ks.count k := by
  unfold cntK
  rw [foldl_bump_getD ks _ (fun x hx => by rw [List.length_replicate]; exact h x hx)]
  have : (List.replicate n 0).getD k 0 = 0 := by
    rw [List.getD_eq_getElem?_getD, List.getElem?_replicate]
    split <;> rfl
  omega
theorem cntK_snoc (n : Nat) (ks : List Nat) (k : Nat) : cntK n (ks ++ [k]) = bump (cntK n ks) k := by unfold cntK; rw [List.foldl_append]; rfl
theorem cntK_at (n : Nat) (ks : List Nat) (h : ∀ k ∈ ks, k < n) (k : Nat) (hk : k < (cntK n ks).length) : (cntK n ks)[k] = ks.count k := by
  have e := cntK_getD n ks h k
  rwa [List.getD_eq_getElem?_getD, List.getElem?_eq_getElem hk, Option.getD_some] at e
/-- How many particles are in each cell. -/
def cntL (W H : Nat) (ps : List QP) : List Nat := cntK (W * H) (ps.map (cellN W H))

set_option maxHeartbeats 4000000 in
set_option maxRecDepth 20000 in
theorem CountQ_ok (W H : Nat) (h : Sides W H) (B : Nat) (v : Value) (ps : List QP) (w : World) (hown : RowQ w B v ps) (hok : ∀ p ∈ ps, p.ok) (hN : ps.length ≤ 6) :
    Calls Try.prog 51 #[gridV W H, v] w fun e w' => ∃ g : Nat, e = .returned (.tuple #[.slice (some ⟨g, 0, none⟩) (W * H) (W * H), .bool true]) ∧ Has w' g 2 (nCells (cntL W H ps)) ∧ Below w.heap.size w w' ∧ w.heap.size ≤ g := by
  have V := keep (fun w => ValidGrid_ok W H h w)
  have SZ := keep (fun w => size_ok W H h w)
  have SL := size_le W H h
  have AP := keep (fun w h' => AreParticles_ok B v (ps.map QP.pd) w h' (QP.all_ok ps hok) (by rw [List.length_map]; omega))
  have CO := keep (fun x y hp w => cornerOf_ok W H h x y hp w)
  have IX := keep (fun x y a b c d w => index_ok W H h x y a b c d w)
  have IN := keep (fun x y => idx_nat W H h x y)
  have MD := keep (fun x => md_bounds x W h.1.1)
  have ME := keep (fun x => md_bounds x H h.2.1)
  have HS := keep h
  have HW := keep hown
  have HO := keep hok
  have P := keep (Has.made w 25 #[.int .i64 W, .int .i64 H])
  have B0 := keep ((Below.refl w.heap.size w).alloc (Nat.le_refl _) (.cells #[.int .i64 W, .int .i64 H] 25))
  obtain ⟨A, c, rfl, _⟩ := qown_form hown
  clear hown hok h
  unfold cntL
  generalize W * H = n at *
  have MK := keep (run_mkI n (by omega))
  rw [nCells_zero] at MK
  unfold gridV placeV at *
  go_enter Try.func51, Try.ntmps51
  go_wp2_with fail
  refine (V.out _).mono ?_
  rintro e w1 ⟨rfl, hb⟩
  have B1 := keep (B0.out.trans (hb.mono B0.out.size))
  have P1 := keep (P.out.after hb)
  have H1 := keep (owns_below HW.out B1.out)
  clear hb B0 P V HW
  go_wp2_with fail
  refine (AP.out _ (by rw [List.length_map]; exact H1.out)).mono ?_
  rintro e w2 ⟨rfl, hb⟩
  have B2 := keep (B1.out.trans (hb.mono B1.out.size))
  have p2 := P1.out.after hb
  have c2 := p2.cells
  have P2 := keep p2
  have H2 := keep (owns_below H1.out hb)
  clear hb B1 P1 H1 p2 AP
  go_wp2_with fail
  refine (SZ.out _).mono ?_
  rintro e w3 ⟨rfl, hb⟩
  have B3 := keep (B2.out.trans (hb.mono B2.out.size))
  have p3 := P2.out.after hb
  have c3 := p3.cells
  have P3 := keep p3
  have H3 := keep (owns_below H2.out hb)
  clear hb B2 P2 H2 c2 p3 SZ
  have mk := MK.out
  obtain ⟨A', c', he, hA⟩ := qown_form H3.out
  injection he with e1 e2 e3
  subst e1
  subst e3
  have HA := keep hA
  have P4 := keep (P3.out.beside (.cells (nCells (List.replicate n 0)) 2))
  have F4 := keep (Has.made w3 2 (nCells (List.replicate n 0)))
  have B4 := keep ((Below.refl w3.heap.size w3).alloc (Nat.le_refl _) (.cells (nCells (List.replicate n 0)) 2))
  have lP := P3.out.in_heap
  clear H3 hA P3 MK
  go_wp2_with fail
  clear mk c3
  go_loopw [22] (fun s wr => ∃ (i : Nat) (cs : List Nat), i ≤ ps.length ∧ s = .int .i64 i ∧ Kept (cs = cntK n ((ps.take i).map (cellN W H))) ∧ Kept (Has wr w3.heap.size 2 (nCells cs)) ∧ Kept (Has wr w.heap.size 25 #[.int .i64 W, .int .i64 H]) ∧ Kept (Below w3.heap.size w3 wr)) (fun s _ => ps.length - (intOf s).toNat)
  case atStart => exact ⟨0, _, Nat.zero_le _, rfl, keep rfl, F4, P4, B4⟩
  case round =>
    clear P4 F4 B4
    obtain ⟨i, cs, hi, rfl, hs, hF, hP, hb⟩ := hrel
    by_cases hlt : i < ps.length
    · obtain ⟨g, rfl, hg, c0, c1, c2, c3⟩ := HA.out i hlt
      have d0 := (hb.out.cell (p := ⟨g, i * 4, none⟩) hg).trans c0
      have d1 := (hb.out.cell (p := ⟨g, i * 4 + 1, none⟩) hg).trans c1
      have d2 := (hb.out.cell (p := ⟨g, i * 4 + 2, none⟩) hg).trans c2
      have d3 := (hb.out.cell (p := ⟨g, i * 4 + 3, none⟩) hg).trans c3
      have hp := HO.out _ (List.getElem_mem hlt)
      have HPl := QP.place hp
      have TK := keep (show (ps.take (i + 1)).map (cellN W H) = (ps.take i).map (cellN W H) ++ [cellN W H ps[i]] by rw [List.take_succ_eq_append_getElem hlt, List.map_append]; rfl)
      have hl : cs.length = n := by rw [hs.out]; exact cntK_length _ _
      have hbd : ∀ k (hk : k < cs.length), cs[k] ≤ 6 := fun k hk => by
        have e : cs.getD k 0 ≤ 6 := by
          rw [hs.out, cntK_getD n _ (fun x hx => by
            obtain ⟨p, _, rfl⟩ := List.mem_map.1 hx
            obtain ⟨ci, eci, lci⟩ := IN.out (md p.x W / 8) (md p.y H / 8)
            unfold cellN
            rw [eci, Int.toNat_natCast]; exact lci)]
          refine Nat.le_trans List.count_le_length ?_
          rw [List.length_map, List.length_take]; omega
        rwa [List.getD_eq_getElem?_getD, List.getElem?_eq_getElem hk, Option.getD_some] at e
      clear c0 c1 c2 c3 hp
      generalize ps[i] = p at *
      have CC := keep (fun w => CO.out p.x p.y HPl w)
      have mx := MD.out p.x
      have my := ME.out p.y
      have ws := HS.out.1.2
      have hs7 := HS.out.2.2
      have II := keep (fun w => IX.out (md p.x W / 8) (md p.y H / 8) (by omega) (by omega) (by omega) (by omega) w)
      obtain ⟨ci, eci, lci⟩ := IN.out (md p.x W / 8) (md p.y H / 8)
      rw [eci] at II
      have EC := keep (show cellN W H p = ci by unfold cellN; rw [eci]; exact Int.toNat_natCast ci)
      have K0 := keep (hP.out.beside (.cells #[.complex .f32 (wd single 3 p.x) (wd single 3 p.y), .complex .f32 (wd single 3 p.u) (wd single 3 p.v), .float .f32 (wd single 2 p.q), .float .f32 (wd single 1 p.m)] 52))
      have K1 := keep (hF.out.beside (.cells #[.complex .f32 (wd single 3 p.x) (wd single 3 p.y), .complex .f32 (wd single 3 p.u) (wd single 3 p.v), .float .f32 (wd single 2 p.q), .float .f32 (wd single 1 p.m)] 52))
      have K2 := keep (Has.made wr 52 #[.complex .f32 (wd single 3 p.x) (wd single 3 p.y), .complex .f32 (wd single 3 p.u) (wd single 3 p.v), .float .f32 (wd single 2 p.q), .float .f32 (wd single 1 p.m)])
      have HB2 := keep (hb.out.alloc hb.out.size (.cells #[.complex .f32 (wd single 3 p.x) (wd single 3 p.y), .complex .f32 (wd single 3 p.u) (wd single 3 p.v), .float .f32 (wd single 2 p.q), .float .f32 (wd single 1 p.m)] 52))
      have lF := hF.out.in_heap
      clear mx my ws hs7 HPl eci HA HO CO IX IN MD ME hF hP hb
      go_wp2_with fail
      clear d0 d1 d2 d3
      generalize wr.alloc (.cells #[.complex .f32 (wd single 3 p.x) (wd single 3 p.y), .complex .f32 (wd single 3 p.u) (wd single 3 p.v), .float .f32 (wd single 2 p.q), .float .f32 (wd single 1 p.m)] 52) = W0 at *
      have lK := K1.out.in_heap
      have lci2 : ci < cs.length := by omega
      have k4 := (K1.out.cells ci).trans (nCells_at cs ci lci2)
      have u4 := K1.out.free ci
      have cw : IntKind.i64.wrap ((cs[ci] : Int) + 1) = ((cs[ci] + 1 : Nat) : Int) := by
        have := hbd ci lci2
        rw [IntWalk.i64_in _ ⟨by omega, by omega⟩]
        omega
      have NS := keep (show (nCells cs).setIfInBounds ci (.int .i64 ((cs[ci] + 1 : Nat) : Int)) = nCells (bump cs ci) by
        rw [nCells_set]
        unfold bump
        rw [List.getD_eq_getElem?_getD, List.getElem?_eq_getElem lci2, Option.getD_some])
      generalize cs[ci] = old at *
      have kg0 := K0.out.cells 0
      have kg1 := K0.out.cells 1
      have kp0 := K2.out.cells 0
      have lG := K0.out.in_heap
      have lciI : (ci : Int) < (n : Int) := by omega
      clear hbd hl
      go_region_law (first
          | (go_simp
             go_at_call 93
             refine (CC.out _).mono ?_
             rintro e w5 ⟨rfl, hb5⟩
             have kg05 := (hb5.cell (p := ⟨w.heap.size, 0, none⟩) lG).trans kg0
             have kg15 := (hb5.cell (p := ⟨w.heap.size, 1, none⟩) lG).trans kg1
             have k5 := (hb5.cell (p := ⟨w3.heap.size, ci, none⟩) lK).trans k4
             have u5 := (hb5.frozen (p := ⟨w3.heap.size, ci, none⟩) lK).trans u4
             have F5 := keep (Has.via (w1 := W0.drew) K1.out rfl hb5)
             have P5 := keep (Has.via (w1 := W0.drew) K0.out rfl hb5)
             have B5 := keep ((Below.drew HB2.out).trans (hb5.mono (Below.drew HB2.out).size))
             have lK5 := Nat.lt_of_lt_of_le lK hb5.size
             clear hb5)
          | (go_simp
             go_at_call 92
             refine (II.out _).mono ?_
             rintro e w6 ⟨rfl, hb6⟩
             have k6 := (hb6.cell (p := ⟨w3.heap.size, ci, none⟩) lK5).trans k5
             have u6 := (hb6.frozen (p := ⟨w3.heap.size, ci, none⟩) lK5).trans u5
             have F6 := keep (F5.out.after hb6)
             have P6 := keep (P5.out.after hb6)
             have B6 := keep (B5.out.trans (hb6.mono B5.out.size))
             clear hb6))
      all_goals
        have F7 := F6.out.written ci (.int .i64 ((old + 1 : Nat) : Int))
        rw [NS.out] at F7
        have F7 := keep F7
        have P7 := keep (P6.out.elsewhere (p := ⟨w3.heap.size, ci, none⟩) (by show w.heap.size ≠ w3.heap.size; omega) (.int .i64 ((old + 1 : Nat) : Int)))
        have B7 := keep (B6.out.setCell (p := ⟨w3.heap.size, ci, none⟩) (Nat.le_refl _) (.int .i64 ((old + 1 : Nat) : Int)))
        clear K0 K1 K2 HB2 F5 P5 B5 F6 P6 B6 k4 u4 k5 u5 k6 u6 kg0 kg1 kp0 kg05 kg15 lK5 CC II
        go_wp2_with fail
        go_roundw
        case rel => exact ⟨i + 1, bump cs ci, by omega, by go_num, keep (by rw [TK.out, cntK_snoc, ← hs.out, EC.out]), F7, P7, B7⟩
        case measure => simp [intOf]; omega
    · obtain rfl : i = ps.length := by omega
      have e1 := hs.out
      rw [List.take_length] at e1
      subst e1
      go_wp2_with fail
      go_ret2
      exact ⟨_, rfl, hF.out, B3.out.trans (hb.out.mono B3.out.size), B3.out.size⟩
end Go.Proofs.Ytnmdgbnophclnaa
