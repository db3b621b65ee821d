/- Contracts: a valid cloud, the cells of its particles. -/
import Derived.Test.YtnmdgbnophclnaaOc
import Derived.Test.YtnmdgbnophclnaaKe
namespace Go.Proofs.Ytnmdgbnophclnaa
open Go.RowKit Go.Sort Ieee
set_option linter.unusedSimpArgs false

/-- A cloud's own data: its sides, its particles and its two numbers. -/
structure CloudOk (W H : Nat) (ps : List QP) (m b : Nat) : Prop where
  sides : Sides W H
  len : ps.length ≤ 6
  parts : ∀ p ∈ ps, p.ok
  finm : fin .f32 m = true
  finb : fin .f32 b = true
def psQ (ps : List QP) : List Value := psCells (ps.map QP.pd)
abbrev RowQ (w : World) (B : Nat) (v : Value) (ps : List QP) : Prop := w.ownsRow B 52 4 v ps.length (psQ ps)

theorem QP.place {p : QP} (h : p.ok) : PlaceOk p.x p.y := by
  obtain ⟨h1, h2, _⟩ := h
  exact ⟨⟨by omega, by omega⟩, by omega, by omega⟩
theorem qown_form {w : World} {B : Nat} {v : Value} {ps : List QP} (h : RowQ w B v ps) :
    ∃ A c, v = .slice A ps.length c ∧ ∀ i (hi : i < ps.length), ∃ g, A = some ⟨g, 0, none⟩ ∧ g < w.heap.size ∧ w.cell? ⟨g, i * 4, none⟩ = some (.complex .f32 (wd single 3 ps[i].x) (wd single 3 ps[i].y)) ∧ w.cell? ⟨g, i * 4 + 1, none⟩ = some (.complex .f32 (wd single 3 ps[i].u) (wd single 3 ps[i].v)) ∧ w.cell? ⟨g, i * 4 + 2, none⟩ = some (.float .f32 (wd single 2 ps[i].q)) ∧ w.cell? ⟨g, i * 4 + 3, none⟩ = some (.float .f32 (wd single 1 ps[i].m)) := by
  obtain ⟨A, c, rfl, hA⟩ := own_form (ps := ps.map QP.pd) (by rw [List.length_map]; exact h)
  rw [List.length_map] at hA ⊢
  refine ⟨A, c, rfl, fun i hi => ?_⟩
  obtain ⟨g, rfl, hg, hc⟩ := hA (by omega)
  have hi' : i < (ps.map QP.pd).length := by rw [List.length_map]; exact hi
  have h4 : ∀ j u, j < 4 → ps[i].pd.cells[j]? = some u → w.cell? ⟨g, i * 4 + j, none⟩ = some u := fun j u hj hu => hc _ _ (by rw [psCells_at _ i hi' j hj, List.getElem_map]; exact hu)
  have hc := QP.pd_cells ps[i]
  exact ⟨g, rfl, hg, h4 0 _ (by omega) (by rw [hc]; rfl), h4 1 _ (by omega) (by rw [hc]; rfl), h4 2 _ (by omega) (by rw [hc]; rfl), h4 3 _ (by omega) (by rw [hc]; rfl)⟩

set_option maxHeartbeats 4000000 in
set_option maxRecDepth 20000 in
theorem ValidCloud_ok (W H : Nat) (ps : List QP) (m b : Nat) (h : CloudOk W H ps m b) (B : Nat) (v : Value) (w : World) (hown : RowQ w B v ps) :
    Calls Try.prog 46 #[cloudV W H v m b] w fun e w' => e = .returned (.bool true) ∧ Below w.heap.size w w' := by
  have V := keep (fun w => ValidGrid_ok W H h.sides w)
  have AP := keep (fun w (h' : w.ownsRow B 52 4 v (ps.map QP.pd).length (psCells (ps.map QP.pd))) => AreParticles_ok B v (ps.map QP.pd) w h' (QP.all_ok ps h.parts) (by rw [List.length_map]; have := h.len; omega))
  have AF := areFinite_two m b
  rw [h.finm, h.finb] at AF
  have AF := keep AF
  have P := keep (Has.made w 29 #[.int .i64 W, .int .i64 H, v, .float .f32 m, .float .f32 b])
  have B0 := keep ((Below.refl w.heap.size w).alloc (Nat.le_refl _) (.cells #[.int .i64 W, .int .i64 H, v, .float .f32 m, .float .f32 b] 29))
  have HO := keep hown
  obtain ⟨A, c, rfl, _⟩ := qown_form hown
  have hl := h.len
  clear hown h
  unfold gridV cloudV at *
  go_enter Try.func46, Try.ntmps46
  go_wp2_with fail
  refine (V.out _).mono ?_
  rintro e w1 ⟨rfl, hb⟩
  have p1 := P.out.after hb
  have cg := p1.cells
  have P1 := keep p1
  have B1 := keep (B0.out.trans (hb.mono B0.out.size))
  have H1 := keep (owns_below HO.out B1.out)
  clear hb P B0 V p1 HO
  go_wp2_with fail
  refine (AP.out _ (by rw [List.length_map]; exact H1.out)).mono ?_
  rintro e w2 ⟨rfl, hb⟩
  have p2 := P1.out.after hb
  clear cg
  have cg := p2.cells
  have B2 := keep (B1.out.trans (hb.mono B1.out.size))
  clear hb P1 B1 AP p2 H1
  go_wp2_with fail
  have a0 := (Has.made w2 27 #[.float .f32 m, .float .f32 b]).cells 0
  have a1 := (Has.made w2 27 #[.float .f32 m, .float .f32 b]).cells 1
  refine (AF.out _ _ _ a0 a1).mono ?_
  rintro e w3 ⟨rfl, n, rfl⟩
  have B3 := keep (Below.drewN_of (B2.out.alloc B2.out.size (.cells #[.float .f32 m, .float .f32 b] 27)) n)
  clear a0 a1 B2 AF cg
  go_wp2_with fail
  go_ret
  exact ⟨rfl, B3.out⟩

/-- The cell of a particle. -/
def cellN (W H : Nat) (p : QP) : Nat := (idx W H (md p.x W / 8) (md p.y H / 8)).toNat
def nList (ns : List Nat) : List Value := ns.map fun (n : Nat) => Value.int .i64 (n : Int)
theorem nList_length (ns : List Nat) : (nList ns).length = ns.length := List.length_map _
theorem nList_at (ns : List Nat) (i : Nat) (h : i < ns.length) : (nList ns)[i]? = some (.int .i64 (ns[i] : Int)) := by
  unfold nList
  rw [List.getElem?_map, List.getElem?_eq_getElem h]
  rfl
theorem nList_append (a b : List Nat) : nList (a ++ b) = nList a ++ nList b := List.map_append ..
theorem nCells_list (ns : List Nat) : nCells ns = (nList ns).toArray := rfl
abbrev RowN (w : World) (B : Nat) (v : Value) (ns : List Nat) : Prop := w.ownsRow B 2 1 v ns.length (nList ns)
theorem four_new' {w : World} {g : Nat} {t : TypeId} {x : Value} (h : Has w g t #[x]) : ∀ j u, [x][j]? = some u → w.cell? ((⟨g, 0, none⟩ : Addr).add j) = some u := by
  intro j u hj
  rw [Addr.add_lit, Nat.zero_add, h.cells]
  simpa using hj
theorem cellN_lt (W H : Nat) (h : Sides W H) (p : QP) : cellN W H p < W * H := by
  obtain ⟨c, e, hc⟩ := idx_nat W H h (md p.x W / 8) (md p.y H / 8)
  unfold cellN
  rw [e]
  exact hc

set_option maxHeartbeats 8000000 in
set_option maxRecDepth 20000 in
theorem cells_ok (W H : Nat) (ps : List QP) (m b : Nat) (h : CloudOk W H ps m b) (B : Nat) (v : Value) (w : World) (hown : RowQ w B v ps) :
    Calls Try.prog 50 #[cloudV W H v m b] w fun e w' => ∃ v', e = .returned v' ∧ RowN w' (w.heap.size + 1) v' (ps.map (cellN W H)) ∧ Below w.heap.size w w' := by
  have CO := keep (fun x y hp w => cornerOf_ok W H h.sides x y hp w)
  have IX := keep (fun x y a b c d w => index_ok W H h.sides x y a b c d w)
  have IN := keep (fun x y => idx_nat W H h.sides x y)
  have MD := keep (fun x => md_bounds x W h.sides.1.1)
  have ME := keep (fun x => md_bounds x H h.sides.2.1)
  have HS := keep h.sides
  have HO := keep h.parts
  have P := keep (Has.made w 29 #[.int .i64 W, .int .i64 H, v, .float .f32 m, .float .f32 b])
  have B0 := keep ((Below.refl w.heap.size w).alloc (Nat.le_refl _) (.cells #[.int .i64 W, .int .i64 H, v, .float .f32 m, .float .f32 b] 29))
  have HW := keep (owns_below hown B0.out)
  obtain ⟨A, c, rfl, _⟩ := qown_form hown
  obtain ⟨i0, hi0, hz0, hz1, hz2⟩ := info_parts infoI64
  have HI := keep hi0
  have HZ0 := keep hz0
  have HZ1 := keep hz1
  have HZ2 := keep hz2
  have hl := h.len
  have R0 := keep (World.ownsRow_nil (w.alloc (.cells #[.int .i64 W, .int .i64 H, .slice A ps.length c, .float .f32 m, .float .f32 b] 29)) (w.heap.size + 1) 2 1)
  clear hown h hi0 hz0 hz1 hz2
  unfold gridV placeV cloudV at *
  go_enter Try.func50, Try.ntmps50
  have cg := P.out.cells
  go_wp2_with fail
  clear cg
  generalize hW0 : w.alloc (.cells #[.int .i64 W, .int .i64 H, .slice A ps.length c, .float .f32 m, .float .f32 b] 29) = w0 at *
  have z0 : w0.heap.size = w.heap.size + 1 := by rw [← hW0, World.size_alloc]
  obtain ⟨A', c', he, hA⟩ := qown_form HW.out
  injection he with e1 e2 e3
  subst e1
  subst e3
  have HA := keep hA
  have BR := keep (Below.refl w0.heap.size w0)
  clear HW hA hW0
  go_loopw [9, 3] (fun s t wr => ∃ (i : Nat) (A1 : Option Addr) (c1 : Nat), i ≤ ps.length ∧ s = .int .i64 i ∧ t = .slice A1 i c1 ∧ Kept (RowN wr (w.heap.size + 1) (.slice A1 i c1) ((ps.take i).map (cellN W H))) ∧ Kept (Has wr w.heap.size 29 #[.int .i64 W, .int .i64 H, .slice A ps.length c, .float .f32 m, .float .f32 b]) ∧ Kept (Below w0.heap.size w0 wr)) (fun s _ _ => ps.length - (intOf s).toNat)
  case atStart => exact ⟨0, none, 0, Nat.zero_le _, rfl, rfl, R0, P, BR⟩
  case round =>
    clear R0 P BR
    obtain ⟨i, A1, c1, hi, rfl, rfl, hR, hP, hb⟩ := hrel
    by_cases hlt : i < ps.length
    · obtain ⟨g, rfl, hg, d0, d1, d2, d3⟩ := HA.out i hlt
      have d0 := (hb.out.cell (p := ⟨g, i * 4, none⟩) hg).trans d0
      have d1 := (hb.out.cell (p := ⟨g, i * 4 + 1, none⟩) hg).trans d1
      have d2 := (hb.out.cell (p := ⟨g, i * 4 + 2, none⟩) hg).trans d2
      have d3 := (hb.out.cell (p := ⟨g, i * 4 + 3, none⟩) hg).trans d3
      have hp := HO.out _ (List.getElem_mem hlt)
      have HPl := QP.place hp
      have TK := keep (show (ps.take (i + 1)).map (cellN W H) = (ps.take i).map (cellN W H) ++ [cellN W H ps[i]] by rw [List.take_succ_eq_append_getElem hlt, List.map_append]; rfl)
      have TL := keep (show ((ps.take i).map (cellN W H)).length = i by rw [List.length_map, List.length_take]; exact Nat.min_eq_left hi)
      clear hp
      generalize hpe : ps[i] = p at *
      have CC := keep (fun w => CO.out p.x p.y HPl w)
      have mx := MD.out p.x
      have my := ME.out p.y
      have ws := HS.out.1.2
      have hs7 := HS.out.2.2
      have II := keep (fun w => IX.out (md p.x W / 8) (md p.y H / 8) (by omega) (by omega) (by omega) (by omega) w)
      obtain ⟨ci, eci, lci⟩ := IN.out (md p.x W / 8) (md p.y H / 8)
      rw [eci] at II
      have EC := keep (show cellN W H p = ci by unfold cellN; rw [eci]; exact Int.toNat_natCast ci)
      have K0 := keep (hP.out.beside (.cells #[.complex .f32 (wd single 3 p.x) (wd single 3 p.y), .complex .f32 (wd single 3 p.u) (wd single 3 p.v), .float .f32 (wd single 2 p.q), .float .f32 (wd single 1 p.m)] 52))
      have hr1 : wr.ownsRow (w.heap.size + 1) 2 1 (.slice A1 i c1) i (nList ((ps.take i).map (cellN W H))) := by
        have e := hR.out
        unfold RowN at e
        rwa [TL.out] at e
      have K1 := keep (hr1.alloc (.cells #[.complex .f32 (wd single 3 p.x) (wd single 3 p.y), .complex .f32 (wd single 3 p.u) (wd single 3 p.v), .float .f32 (wd single 2 p.q), .float .f32 (wd single 1 p.m)] 52))
      have K2 := keep (Has.made wr 52 #[.complex .f32 (wd single 3 p.x) (wd single 3 p.y), .complex .f32 (wd single 3 p.u) (wd single 3 p.v), .float .f32 (wd single 2 p.q), .float .f32 (wd single 1 p.m)])
      have HB2 := keep (hb.out.alloc hb.out.size (.cells #[.complex .f32 (wd single 3 p.x) (wd single 3 p.y), .complex .f32 (wd single 3 p.u) (wd single 3 p.v), .float .f32 (wd single 2 p.q), .float .f32 (wd single 1 p.m)] 52))
      clear mx my ws hs7 HPl eci HA HO CO IX IN MD ME hP hb hR hr1 hpe
      go_wp2_with fail
      clear d0 d1 d2 d3
      generalize wr.alloc (.cells #[.complex .f32 (wd single 3 p.x) (wd single 3 p.y), .complex .f32 (wd single 3 p.u) (wd single 3 p.v), .float .f32 (wd single 2 p.q), .float .f32 (wd single 1 p.m)] 52) = W0 at *
      have lK := K0.out.in_heap
      have kg0 := K0.out.cells 0
      have kg1 := K0.out.cells 1
      have kp0 := K2.out.cells 0
      go_region_law (first
        | (refine step_append_lies _ rfl (.tmp 13) (.tmp 24) 31 rfl (w.heap.size + 1) 2 i0 _ 1 8 Try.underlying31 HI.out HZ0.out HZ1.out HZ2.out rfl (by decide) (.slice A1 i c1) i _ (by simp [Act.eval, Act.put]) (K6.out.alloc _) ⟨w6.heap.size, 0, none⟩ 1 1 [.int .i64 (ci : Int)] (by simp [Act.eval, Act.put]) rfl (four_new' (Has.made w6 2 #[.int .i64 (ci : Int)])) (fun u hu => by rw [List.mem_singleton.1 hu]; rfl) (by decide) (by show i + 1 ≤ 9223372036854775807; omega) (by omega) (by rw [World.size_alloc]; omega) _ rfl ?_
           intro g7 cap7 w7 hown7 hgrow7 hor7 hlt7)
        | (go_simp
           go_at_call 93
           refine (CC.out _).mono ?_
           rintro e w5 ⟨rfl, hb5⟩
           have kg05 := (hb5.cell (p := ⟨w.heap.size, 0, none⟩) lK).trans kg0
           have kg15 := (hb5.cell (p := ⟨w.heap.size, 1, none⟩) lK).trans kg1
           have K5 := keep (owns_below (w := W0.drew) (owns_below K1.out (Below.drew (Below.refl _ _))) hb5)
           have P5 := keep ((K0.out.after (Below.drew (Below.refl _ _))).after hb5)
           have B5 := keep ((Below.drew HB2.out).trans (hb5.mono (Below.drew HB2.out).size))
           clear hb5)
        | (go_simp
           go_at_call 92
           refine (II.out _).mono ?_
           rintro e w6 ⟨rfl, hb6⟩
           have K6 := keep (owns_below K5.out hb6)
           have P6 := keep (P5.out.after hb6)
           have B6 := keep (B5.out.trans (hb6.mono B5.out.size))
           have l6 := P6.out.in_heap
           clear hb6))
      all_goals (
        have bX : Below (w.heap.size + 1) _ w7 := (Below.refl (w.heap.size + 1) _).grown hgrow7 (by simp only [World.size_alloc]; omega) (fun b e => (K6.out.lt b e).1)
        have P7 := keep ((P6.out.beside (.cells #[.int .i64 (ci : Int)] 2)).later bX (by omega))
        have B7 := keep ((B6.out.alloc B6.out.size (.cells #[.int .i64 (ci : Int)] 2)).trans (bX.mono (by omega)))
        have R7 := keep hown7
        clear K0 K1 K2 HB2 bX kg0 kg1 kp0 kg05 kg15 K5 P5 B5 K6 P6 B6 CC II hown7 hgrow7 hor7 hlt7
        go_wp2_with fail
        go_roundw)
      all_goals first
        | exact ⟨i + 1, some ⟨g7, 0, none⟩, cap7, by omega, by go_num, rfl, keep (by
            have e := R7.out
            unfold RowN
            rw [TK.out, List.length_append, TL.out, nList_append, EC.out]
            exact e), P7, B7⟩
        | (simp [intOf]; omega)
    · obtain rfl : i = ps.length := by omega
      have hr := hR.out
      rw [List.take_length] at hr
      have HR := keep hr
      have B9 := keep (B0.out.trans (hb.out.mono B0.out.size))
      clear hr hR
      go_wp2_with fail
      go_ret
      exact ⟨_, rfl, HR.out, B9.out⟩
end Go.Proofs.Ytnmdgbnophclnaa
