/- Contract: how many particles are in each cell: all of them together. -/
import Derived.Test.YtnmdgbnophclnaaKd
import Derived.Deep.RegionHeld
namespace Go.Proofs.Ytnmdgbnophclnaa
open Go.RowKit Go.Sort Ieee
set_option linter.unusedSimpArgs false

def nCells (cs : List Nat) : Array Value := (cs.map fun (n : Nat) => Value.int .i64 (n : Int)).toArray
theorem nCells_at (cs : List Nat) (i : Nat) (h : i < cs.length) : (nCells cs)[i]? = some (.int .i64 (cs[i] : Int)) := by
  unfold nCells
  rw [List.getElem?_toArray, List.getElem?_map, List.getElem?_eq_getElem h]
  rfl
theorem nCells_set (cs : List Nat) (c n : Nat) : (nCells cs).setIfInBounds c (.int .i64 (n : Int)) = nCells (cs.set c n) := by
  unfold nCells
  rw [List.map_set, List.setIfInBounds_toArray]
theorem nCells_zero (n : Nat) : Array.replicate n (Value.int .i64 0) = nCells (List.replicate n 0) := by
  unfold nCells
  rw [List.map_replicate, List.toArray_replicate]
  rfl
theorem sum_set : ∀ (cs : List Nat) (c : Nat) (h : c < cs.length), (cs.set c (cs[c] + 1)).sum = cs.sum + 1
  | a :: cs, 0, _ => by simp; omega
  | a :: cs, c + 1, h => by
    have h1 : c < cs.length := by simpa using h
    have := sum_set cs c h1
    simp only [List.set_cons_succ, List.sum_cons, List.getElem_cons_succ]
    omega
theorem le_sum_at : ∀ (cs : List Nat) (c : Nat) (h : c < cs.length), cs[c] ≤ cs.sum
  | a :: cs, 0, _ => by simp
  | a :: cs, c + 1, h => by
    have h1 : c < cs.length := by simpa using h
    have := le_sum_at cs c h1
    simp only [List.sum_cons, List.getElem_cons_succ]
    omega
theorem Has.via {w w1 w' : World} {g : Nat} {t : TypeId} {cs : Array Value} (h : Has w g t cs) (e : w1.heap = w.heap) (hb : Below w1.heap.size w1 w') : Has w' g t cs :=
  Has.after (w := w1) (by unfold Has at *; rw [e]; exact h) hb
theorem gb_draw1 {w w1 : World} {r : Option Nat} (h : w.grownBy w1 r) : w.grownBy w1.drew r := gb_below h (Below.drewN w.heap.size w1 1) (Nat.le_refl _)
theorem gb_drawn {w w1 : World} {r : Option Nat} (h : w.grownBy w1 r) (m : Nat) : w.grownBy (w1.drewN m) r := gb_below h (Below.drewN w.heap.size w1 m) (Nat.le_refl _)
theorem gb_store {w w1 : World} {g : Nat} (h : w.grownBy w1 (some g)) (o : Nat) (u : Value) : w.grownBy (w1.setCell ⟨g, o, none⟩ u) (some g) := gb_trans h (gb_row' w1 g o u)

set_option maxHeartbeats 4000000 in
set_option maxRecDepth 20000 in
theorem CountCells_ok (W H : Nat) (h : Sides W H) (B : Nat) (v : Value) (gs : List GP) (w : World) (hown : w.ownsRow B 52 4 v gs.length (psCells (gs.map GP.pd))) (hok : ∀ p ∈ gs, p.ok) (hN : gs.length ≤ 6) :
    Calls Try.prog 51 #[gridV W H, v] w fun e w' => ∃ (g : Nat) (cs : List Nat), e = .returned (.tuple #[.slice (some ⟨g, 0, none⟩) cs.length cs.length, .bool true]) ∧ Has w' g 2 (nCells cs) ∧ cs.sum = gs.length ∧ cs.length ≤ 49 ∧ Below w.heap.size w w' := by
  have V := keep (fun w => ValidGrid_ok W H h w)
  have SZ := keep (fun w => size_ok W H h w)
  have SL := size_le W H h
  have AP := keep (fun w h => Areg_ok B v gs w h hok hN)
  have CO := keep (fun x y hp w => cornerOf_ok W H h x y hp w)
  have IX := keep (fun x y a b c d w => index_ok W H h x y a b c d w)
  have IN := keep (fun x y => idx_nat W H h x y)
  have MD := keep (fun x => md_bounds x W h.1.1)
  have ME := keep (fun x => md_bounds x H h.2.1)
  have HS := keep h
  have HW := keep hown
  have HO := keep hok
  have P := keep (Has.made w 25 #[.int .i64 W, .int .i64 H])
  have B0 := keep ((Below.refl w.heap.size w).alloc (Nat.le_refl _) (.cells #[.int .i64 W, .int .i64 H] 25))
  obtain ⟨A, c, rfl⟩ := own_slice hown
  clear hown hok h
  generalize W * H = n at *
  have MK := keep (run_mkI n (by omega))
  rw [nCells_zero] at MK
  unfold gridV placeV at *
  go_enter Try.func51, Try.ntmps51
  go_wp2_with fail
  refine (V.out _).mono ?_
  rintro e w1 ⟨rfl, hb⟩
  have B1 := keep (B0.out.trans (hb.mono B0.out.size))
  have P1 := keep (P.out.after hb)
  have H1 := keep (owns_below HW.out B1.out)
  clear hb B0 P V HW
  go_wp2_with fail
  refine (AP.out _ H1.out).mono ?_
  rintro e w2 ⟨rfl, hb⟩
  have B2 := keep (B1.out.trans (hb.mono B1.out.size))
  have p2 := P1.out.after hb
  have c2 := p2.cells
  have P2 := keep p2
  have H2 := keep (owns_below H1.out hb)
  clear hb B1 P1 H1 p2 AP
  go_wp2_with fail
  refine (SZ.out _).mono ?_
  rintro e w3 ⟨rfl, hb⟩
  have B3 := keep (B2.out.trans (hb.mono B2.out.size))
  have p3 := P2.out.after hb
  have c3 := p3.cells
  have P3 := keep p3
  have H3 := keep (owns_below H2.out hb)
  clear hb B2 P2 H2 c2 p3 SZ
  have mk := MK.out
  obtain ⟨A', c', he, hA⟩ := gown_form H3.out
  injection he with e1 e2 e3
  subst e1
  subst e3
  have HA := keep hA
  have P4 := keep (P3.out.beside (.cells (nCells (List.replicate n 0)) 2))
  have F4 := keep (Has.made w3 2 (nCells (List.replicate n 0)))
  have B4 := keep ((Below.refl w3.heap.size w3).alloc (Nat.le_refl _) (.cells (nCells (List.replicate n 0)) 2))
  have lP := P3.out.in_heap
  clear H3 hA P3 MK
  go_wp2_with fail
  clear mk c3
  go_loopw [22] (fun s wr => ∃ (i : Nat) (cs : List Nat), i ≤ gs.length ∧ s = .int .i64 i ∧ Kept (cs.length = n) ∧ Kept (cs.sum = i) ∧ Kept (Has wr w3.heap.size 2 (nCells cs)) ∧ Kept (Has wr w.heap.size 25 #[.int .i64 W, .int .i64 H]) ∧ Kept (Below w3.heap.size w3 wr)) (fun s _ => gs.length - (intOf s).toNat)
  case atStart => exact ⟨0, _, Nat.zero_le _, rfl, keep (List.length_replicate ..), keep (by simp), F4, P4, B4⟩
  case round =>
    clear P4 F4 B4
    obtain ⟨i, cs, hi, rfl, hl, hs, hF, hP, hb⟩ := hrel
    by_cases hlt : i < gs.length
    · obtain ⟨g, rfl, hg, c0, c1, c2, c3⟩ := HA.out i hlt
      have d0 := (hb.out.cell (p := ⟨g, i * 4, none⟩) hg).trans c0
      have d1 := (hb.out.cell (p := ⟨g, i * 4 + 1, none⟩) hg).trans c1
      have d2 := (hb.out.cell (p := ⟨g, i * 4 + 2, none⟩) hg).trans c2
      have d3 := (hb.out.cell (p := ⟨g, i * 4 + 3, none⟩) hg).trans c3
      have hp := HO.out _ (List.getElem_mem hlt)
      have HPl := GP.place hp
      clear c0 c1 c2 c3 hp
      generalize gs[i] = p at *
      have CC := keep (fun w => CO.out p.x p.y HPl w)
      have mx := MD.out p.x
      have my := ME.out p.y
      have ws := HS.out.1.2
      have hs7 := HS.out.2.2
      have II := keep (fun w => IX.out (md p.x W / 8) (md p.y H / 8) (by omega) (by omega) (by omega) (by omega) w)
      obtain ⟨ci, eci, lci⟩ := IN.out (md p.x W / 8) (md p.y H / 8)
      rw [eci] at II
      have K0 := keep (hP.out.beside (.cells #[.complex .f32 (wd single 3 p.x) (wd single 3 p.y), .complex .f32 (wd single 3 p.u) (wd single 3 p.v), .float .f32 (wd single 1 p.q), .float .f32 (wd single 2 p.m)] 52))
      have K1 := keep (hF.out.beside (.cells #[.complex .f32 (wd single 3 p.x) (wd single 3 p.y), .complex .f32 (wd single 3 p.u) (wd single 3 p.v), .float .f32 (wd single 1 p.q), .float .f32 (wd single 2 p.m)] 52))
      have K2 := keep (Has.made wr 52 #[.complex .f32 (wd single 3 p.x) (wd single 3 p.y), .complex .f32 (wd single 3 p.u) (wd single 3 p.v), .float .f32 (wd single 1 p.q), .float .f32 (wd single 2 p.m)])
      have HB2 := keep (hb.out.alloc hb.out.size (.cells #[.complex .f32 (wd single 3 p.x) (wd single 3 p.y), .complex .f32 (wd single 3 p.u) (wd single 3 p.v), .float .f32 (wd single 1 p.q), .float .f32 (wd single 2 p.m)] 52))
      have lF := hF.out.in_heap
      clear mx my ws hs7 HPl eci HA HO CO IX IN MD ME hF hP hb
      go_wp2_with fail
      clear d0 d1 d2 d3
      generalize wr.alloc (.cells #[.complex .f32 (wd single 3 p.x) (wd single 3 p.y), .complex .f32 (wd single 3 p.u) (wd single 3 p.v), .float .f32 (wd single 1 p.q), .float .f32 (wd single 2 p.m)] 52) = W0 at *
      have lK := K1.out.in_heap
      have eg := hl.out
      have lci2 : ci < cs.length := by omega
      have k4 := (K1.out.cells ci).trans (nCells_at cs ci lci2)
      have u4 := K1.out.free ci
      have cw : IntKind.i64.wrap ((cs[ci] : Int) + 1) = ((cs[ci] + 1 : Nat) : Int) := by
        have := le_sum_at cs ci lci2
        have := hs.out
        rw [IntWalk.i64_in _ ⟨by omega, by omega⟩]
        omega
      have NS := keep (nCells_set cs ci (cs[ci] + 1))
      have SS := keep (sum_set cs ci lci2)
      generalize cs[ci] = old at *
      have kg0 := K0.out.cells 0
      have kg1 := K0.out.cells 1
      have kp0 := K2.out.cells 0
      have lG := K0.out.in_heap
      have lciI : (ci : Int) < (n : Int) := by omega
      clear eg
      go_region_with (first
          | ((with_reducible refine (CC.out _).mono ?_); rintro e w5 ⟨rfl, hb5⟩; have kg05 := (hb5.cell (p := ⟨w.heap.size, 0, none⟩) lG).trans kg0; have kg15 := (hb5.cell (p := ⟨w.heap.size, 1, none⟩) lG).trans kg1; have k5 := (hb5.cell (p := ⟨w3.heap.size, ci, none⟩) lK).trans k4; have u5 := (hb5.frozen (p := ⟨w3.heap.size, ci, none⟩) lK).trans u4; have lK5 := Nat.lt_of_lt_of_le lK hb5.size)
          | ((with_reducible refine (II.out _).mono ?_); rintro e w6 ⟨rfl, hb6⟩; have k6 := (hb6.cell (p := ⟨w3.heap.size, ci, none⟩) lK5).trans k5; have u6 := (hb6.frozen (p := ⟨w3.heap.size, ci, none⟩) lK5).trans u5))
      all_goals
        have F6 := keep ((Has.via (w1 := W0.drew) K1.out rfl hb5).after hb6)
        have P6 := keep ((Has.via (w1 := W0.drew) K0.out rfl hb5).after hb6)
        have B5 := (Below.drew HB2.out).trans (hb5.mono (Below.drew HB2.out).size)
        have B6 := keep (B5.trans (hb6.mono B5.size))
        clear K0 K1 K2 HB2 B5 hb5 hb6 k4 u4 k5 u5 k6 u6 kg0 kg1 kp0 kg05 kg15 lK5 CC II
        go_wp2_with fail
        go_roundw
        case rel => exact ⟨i + 1, cs.set ci (old + 1), by omega, by go_num, keep (by rw [List.length_set]; exact hl.out), keep (by rw [SS.out, hs.out]), keep (by rw [← NS.out]; exact F6.out.written ci _), keep (P6.out.elsewhere (p := ⟨w3.heap.size, ci, none⟩) (by show w.heap.size ≠ w3.heap.size; omega) _), keep (B6.out.setCell (p := ⟨w3.heap.size, ci, none⟩) (Nat.le_refl _) _)⟩
        case measure => simp [intOf]; omega
    · obtain rfl : i = gs.length := by omega
      have e1 := hl.out
      subst e1
      go_wp2_with fail
      go_ret2
      exact ⟨_, cs, rfl, hF.out, hs.out, SL.2, B3.out.trans (hb.out.mono B3.out.size)⟩
end Go.Proofs.Ytnmdgbnophclnaa
