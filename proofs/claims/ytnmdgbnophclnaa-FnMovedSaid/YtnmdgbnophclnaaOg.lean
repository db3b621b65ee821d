/- Contracts: particles chosen by their indices; a cloud with other particles; a sorted cloud. -/
import Derived.Test.YtnmdgbnophclnaaOf
namespace Go.Proofs.Ytnmdgbnophclnaa
open Go.RowKit Go.Sort Ieee
set_option linter.unusedSimpArgs false
set_option linter.unusedVariables false

/-- Particles by their indices. -/
def pickQ (ps : List QP) (os : List Nat) : List QP := os.map fun i => ps.getD i ⟨0, 0, 0, 0, 0, 0⟩
theorem pickQ_length (ps : List QP) (os : List Nat) : (pickQ ps os).length = os.length := List.length_map _
theorem pickQ_take (ps : List QP) (os : List Nat) (i : Nat) (h : i < os.length) (h2 : os[i] < ps.length) : pickQ ps (os.take (i + 1)) = pickQ ps (os.take i) ++ [ps[os[i]]] := by
  unfold pickQ
  rw [List.take_succ_eq_append_getElem h, List.map_append, List.map_cons, List.map_nil, List.getD_eq_getElem?_getD, List.getElem?_eq_getElem h2, Option.getD_some]
theorem pickQ_ok (ps : List QP) (os : List Nat) (h : ∀ p ∈ ps, p.ok) (ho : ∀ x ∈ os, x < ps.length) : ∀ p ∈ pickQ ps os, p.ok := by
  intro p hp
  obtain ⟨i, hi, rfl⟩ := List.mem_map.1 hp
  have := ho i hi
  rw [List.getD_eq_getElem?_getD, List.getElem?_eq_getElem this, Option.getD_some]
  exact h _ (List.getElem_mem this)
theorem psQ_append (a b : List QP) : psQ (a ++ b) = psQ a ++ psQ b := by unfold psQ; rw [List.map_append, psCells_append]

set_option maxHeartbeats 4000000 in
set_option maxRecDepth 20000 in
theorem chosen_ok (W H : Nat) (ps : List QP) (m b : Nat) (os : List Nat) (hn : os.length ≤ 6) (ho : ∀ x ∈ os, x < ps.length) (B : Nat) (v : Value) (g c : Nat) (w : World) (hown : RowQ w B v ps) (hg : g < w.heap.size) (hc : ∀ i (h : i < os.length), w.cell? ⟨g, i, none⟩ = some (.int .i64 (os[i] : Int))) :
    Calls Try.prog 49 #[cloudV W H v m b, .slice (some ⟨g, 0, none⟩) os.length c] w fun e w' => ∃ v', e = .returned v' ∧ RowQ w' (w.heap.size + 1) v' (pickQ ps os) ∧ Below w.heap.size w w' := by
  have P := keep (Has.made w 29 #[.int .i64 W, .int .i64 H, v, .float .f32 m, .float .f32 b])
  have B0 := keep ((Below.refl w.heap.size w).alloc (Nat.le_refl _) (.cells #[.int .i64 W, .int .i64 H, v, .float .f32 m, .float .f32 b] 29))
  have HW := keep (owns_below hown B0.out)
  have HC := keep hc
  have HO := keep ho
  obtain ⟨A, cc, rfl, _⟩ := qown_form hown
  obtain ⟨i0, hi0, hz0, hz1, hz2⟩ := info_parts infoParticle
  have HI := keep hi0
  have HZ0 := keep hz0
  have HZ1 := keep hz1
  have HZ2 := keep hz2
  have R0 := keep (World.ownsRow_nil (w.alloc (.cells #[.int .i64 W, .int .i64 H, .slice A ps.length cc, .float .f32 m, .float .f32 b] 29)) (w.heap.size + 1) 52 4)
  clear hown hi0 hz0 hz1 hz2 hc ho
  unfold cloudV at *
  go_enter Try.func49, Try.ntmps49
  have cg := P.out.cells
  go_wp2_with fail
  clear cg
  generalize hW0 : w.alloc (.cells #[.int .i64 W, .int .i64 H, .slice A ps.length cc, .float .f32 m, .float .f32 b] 29) = w0 at *
  have z0 : w0.heap.size = w.heap.size + 1 := by rw [← hW0, World.size_alloc]
  have HC0 : Kept (∀ i (h : i < os.length), w0.cell? ⟨g, i, none⟩ = some (.int .i64 (os[i] : Int))) := keep (fun i h => (B0.out.cell (p := ⟨g, i, none⟩) hg).trans (HC.out i h))
  obtain ⟨A', c', he, hA⟩ := qown_form HW.out
  injection he with e1 e2 e3
  subst e1
  subst e3
  have HA := keep hA
  have BR := keep (Below.refl w0.heap.size w0)
  clear HW hA hW0 HC e2
  go_loopw [10, 5] (fun s t wr => ∃ (i : Nat) (A1 : Option Addr) (c1 : Nat), i ≤ os.length ∧ s = .int .i64 i ∧ t = .slice A1 i c1 ∧ Kept (wr.ownsRow (w.heap.size + 1) 52 4 (.slice A1 i c1) i (psQ (pickQ ps (os.take i)))) ∧ Kept (Below w0.heap.size w0 wr)) (fun s _ _ => os.length - (intOf s).toNat)
  case atStart => exact ⟨0, none, 0, Nat.zero_le _, rfl, rfl, R0, BR⟩
  case round =>
    clear R0 BR
    obtain ⟨i, A1, c1, hi, rfl, rfl, hR, hb⟩ := hrel
    by_cases hlt : i < os.length
    · have hx := HO.out _ (List.getElem_mem hlt)
      have ci := (hb.out.cell (p := ⟨g, i, none⟩) (by show g < w0.heap.size; omega)).trans (HC0.out i hlt)
      have TK := keep (pickQ_take ps os i hlt hx)
      generalize os[i] = x at *
      obtain ⟨gp, rfl, hgp, d0, d1, d2, d3⟩ := HA.out x hx
      have d0 := (hb.out.cell (p := ⟨gp, x * 4, none⟩) hgp).trans d0
      have d1 := (hb.out.cell (p := ⟨gp, x * 4 + 1, none⟩) hgp).trans d1
      have d2 := (hb.out.cell (p := ⟨gp, x * 4 + 2, none⟩) hgp).trans d2
      have d3 := (hb.out.cell (p := ⟨gp, x * 4 + 3, none⟩) hgp).trans d3
      have cg := (P.out.after hb.out).cells
      have hxI : (x : Int) < (ps.length : Int) := by omega
      generalize ps[x] = p at *
      have hsz := hb.out.size
      have HR := keep hR.out
      have HB := keep hb.out
      clear hR hb HA HO HC0
      go_wp2_with (at_builtin; go_loud (refine wpList_append_own_at _ rfl _ _ 26 rfl (w.heap.size + 1) 52 i0 _ 4 24 Try.underlying26 HI.out HZ0.out HZ1.out HZ2.out rfl (by decide) (.slice A1 i c1) i _ rfl (HR.out.alloc _) ⟨wr.heap.size, 0, none⟩ 1 1 (QP.pd p).cells rfl rfl ?c1 ?c2 ?c3 ?c4 ?c5 ?_))
      case c1 => exact four_new (Has.made wr 52 #[.complex .f32 (wd single 3 p.x) (wd single 3 p.y), .complex .f32 (wd single 3 p.u) (wd single 3 p.v), .float .f32 (wd single 2 p.q), .float .f32 (wd single 1 p.m)])
      case c2 =>
        intro u hu
        rw [QP.pd_cells] at hu
        simp only [List.mem_cons, List.not_mem_nil, or_false] at hu
        rcases hu with rfl | rfl | rfl | rfl <;> rfl
      case c3 => unfold maxLen; omega
      case c4 => omega
      case c5 => first | omega | (simp only [World.size_alloc]; omega)
      intro v' w5 hown' hgrow _ _
      obtain ⟨g', cap', rfl, hB', hlt'⟩ := hown'.form (by omega)
      have hL := HR.out.lt
      have bX : Below (w.heap.size + 1) _ w5 := (Below.refl (w.heap.size + 1) _).grown hgrow (by simp only [World.size_alloc]; omega) (fun b e => (hL b e).1)
      have B6 := keep ((HB.out.alloc HB.out.size (.cells #[.complex .f32 (wd single 3 p.x) (wd single 3 p.y), .complex .f32 (wd single 3 p.u) (wd single 3 p.v), .float .f32 (wd single 2 p.q), .float .f32 (wd single 1 p.m)] 52)).trans (bX.mono (by omega)))
      have OW := keep hown'
      clear hown' hgrow bX hL HR HB
      go_wp2_with fail
      go_roundw
      case rel => exact ⟨i + 1, _, _, by omega, by go_num, rfl, keep (by
          have e := OW.out
          rw [TK.out, psQ_append]
          exact e), B6⟩
      case measure => simp [intOf]; omega
    · obtain rfl : i = os.length := by omega
      have hr := hR.out
      rw [List.take_length] at hr
      have HR := keep hr
      have B9 := keep (B0.out.trans (hb.out.mono B0.out.size))
      clear hr hR
      go_wp2_with fail
      go_ret
      exact ⟨_, rfl, by unfold RowQ; rw [pickQ_length]; exact HR.out, B9.out⟩

theorem chosen_n (W H : Nat) (ps : List QP) (m b : Nat) (os : List Nat) (n : Nat) (e : os.length = n) (hn : n ≤ 6) (ho : ∀ x ∈ os, x < ps.length) (B : Nat) (v : Value) (g c : Nat) (w : World) (hown : RowQ w B v ps) (hg : g < w.heap.size) (hc : ∀ i (h : i < os.length), w.cell? ⟨g, i, none⟩ = some (.int .i64 (os[i] : Int))) :
    Calls Try.prog 49 #[cloudV W H v m b, .slice (some ⟨g, 0, none⟩) n c] w fun e w' => ∃ v', e = .returned v' ∧ RowQ w' (w.heap.size + 1) v' (pickQ ps os) ∧ Below w.heap.size w w' := by
  subst e
  exact chosen_ok W H ps m b os hn ho B v g c w hown hg hc

def cloudZ : Array Value := #[.int .i64 0, .int .i64 0, .slice none 0 0, .float .f32 0, .float .f32 0]
set_option maxHeartbeats 4000000 in
set_option maxRecDepth 20000 in
theorem with_ok (W H : Nat) (ps0 : List QP) (v0 : Value) (m b : Nat) (ps : List QP) (h : CloudOk W H ps m b) (hv0 : ∃ A n c, v0 = .slice A n c) (B : Nat) (v : Value) (w : World) (hown : RowQ w B v ps) :
    Calls Try.prog 48 #[cloudV W H v0 m b, v] w fun e w' => e = .returned (.tuple #[cloudV W H v m b, .bool true]) ∧ Below w.heap.size w w' := by
  have VC := keep (fun w h' => ValidCloud_ok W H ps m b h B v w h')
  obtain ⟨A, c, rfl, _⟩ := qown_form hown
  obtain ⟨A0, n0, c0, rfl⟩ := hv0
  have PP := (Has.made w 29 #[.int .i64 W, .int .i64 H, .slice A ps.length c, .float .f32 m, .float .f32 b]).beside (.cells cloudZ 29)
  have ZZ := Has.made (w.alloc (.cells #[.int .i64 W, .int .i64 H, .slice A ps.length c, .float .f32 m, .float .f32 b] 29)) 29 cloudZ
  have BB := ((Below.refl w.heap.size w).alloc (Nat.le_refl _) (.cells #[.int .i64 W, .int .i64 H, .slice A ps.length c, .float .f32 m, .float .f32 b] 29)).alloc (by simp only [World.size_alloc]; omega) (.cells cloudZ 29)
  rw [World.size_alloc] at ZZ
  have HW := keep (owns_below hown BB)
  have P := keep PP
  have Z := keep ZZ
  have B0 := keep BB
  clear hown h PP ZZ BB
  unfold cloudV cloudZ at *
  go_enter Try.func48, Try.ntmps48
  go_wp2_with fail
  refine (VC.out _ HW.out).mono ?_
  rintro e w1 ⟨rfl, hb⟩
  have p1 := P.out.after hb
  have z1 := Z.out.after hb
  have cg := p1.cells
  have cz := z1.cells
  have uz := z1.free
  have B1 := keep (B0.out.trans (hb.mono B0.out.size))
  have Z1 := keep z1
  clear hb P B0 Z VC HW p1 z1
  go_wp2_with fail
  have q := ((((Z1.out.written 0 (.int .i64 W)).written 1 (.int .i64 H)).written 2 (.slice A ps.length c)).written 3 (.float .f32 m)).written 4 (.float .f32 b)
  have qc := q.cells
  exact bodyPost_ret (v := .tuple #[.agg #[.int .i64 W, .int .i64 H, .slice A ps.length c, .float .f32 m, .float .f32 b], .bool true]) (by simp [results, Try.results48, go_sem, qc]) rfl ⟨rfl, ((((B1.out.setCell (p := ⟨w.heap.size + 1, 0, none⟩) (by show w.heap.size ≤ w.heap.size + 1; omega) _).setCell (p := ⟨w.heap.size + 1, 1, none⟩) (by show w.heap.size ≤ w.heap.size + 1; omega) _).setCell (p := ⟨w.heap.size + 1, 2, none⟩) (by show w.heap.size ≤ w.heap.size + 1; omega) _).setCell (p := ⟨w.heap.size + 1, 3, none⟩) (by show w.heap.size ≤ w.heap.size + 1; omega) _).setCell (p := ⟨w.heap.size + 1, 4, none⟩) (by show w.heap.size ≤ w.heap.size + 1; omega) _⟩

def setCloud (w : World) (g W H : Nat) (v : Value) (m b : Nat) : World := ((((w.setCell ⟨g, 0, none⟩ (.int .i64 W)).setCell ⟨g, 1, none⟩ (.int .i64 H)).setCell ⟨g, 2, none⟩ v).setCell ⟨g, 3, none⟩ (.float .f32 m)).setCell ⟨g, 4, none⟩ (.float .f32 b)
theorem setCloud_has {w : World} {g : Nat} (Z : Has w g 29 cloudZ) (W H : Nat) (v : Value) (m b : Nat) : Has (setCloud w g W H v m b) g 29 #[.int .i64 W, .int .i64 H, v, .float .f32 m, .float .f32 b] :=
  ((((Z.written 0 (.int .i64 W)).written 1 (.int .i64 H)).written 2 v).written 3 (.float .f32 m)).written 4 (.float .f32 b)
theorem setCloud_below {B g : Nat} {w0 w : World} (h : Below B w0 w) (hg : B ≤ g) (W H : Nat) (v : Value) (m b : Nat) : Below B w0 (setCloud w g W H v m b) :=
  ((((h.setCell (p := ⟨g, 0, none⟩) hg _).setCell (p := ⟨g, 1, none⟩) hg _).setCell (p := ⟨g, 2, none⟩) hg _).setCell (p := ⟨g, 3, none⟩) hg _).setCell (p := ⟨g, 4, none⟩) hg _
theorem setCloud_own {B g e size n : Nat} {w : World} {v' : Value} {xs : List Value} (h : w.ownsRow B e size v' n xs) (hg : g < B) (W H : Nat) (v : Value) (m b : Nat) : (setCloud w g W H v m b).ownsRow B e size v' n xs :=
  own_low (o := 4) (own_low (o := 3) (own_low (o := 2) (own_low (o := 1) (own_low (o := 0) h hg _) hg _) hg _) hg _) hg _
theorem setCloud_cells {w : World} {g : Nat} (Z : Has w g 29 cloudZ) (W H : Nat) (v : Value) (m b : Nat) (i : Nat) :
    (((((w.setCell ⟨g, 0, none⟩ (.int .i64 W)).setCell ⟨g, 1, none⟩ (.int .i64 H)).setCell ⟨g, 2, none⟩ v).setCell ⟨g, 3, none⟩ (.float .f32 m)).setCell ⟨g, 4, none⟩ (.float .f32 b)).cell? ⟨g, i, none⟩ = #[.int .i64 W, .int .i64 H, v, .float .f32 m, .float .f32 b][i]? :=
  (setCloud_has Z W H v m b).cells i

theorem cloud_pick {W H m b : Nat} {ps : List QP} (h : CloudOk W H ps m b) {os : List Nat} (hn : os.length ≤ 6) (ho : ∀ x ∈ os, x < ps.length) : CloudOk W H (pickQ ps os) m b :=
  ⟨h.sides, by rw [pickQ_length]; exact hn, pickQ_ok ps os h.parts ho, h.finm, h.finb⟩

set_option maxHeartbeats 4000000 in
set_option maxRecDepth 20000 in
theorem CellsOf_ok (W H : Nat) (ps : List QP) (m b : Nat) (h : CloudOk W H ps m b) (B : Nat) (v : Value) (w : World) (hown : RowQ w B v ps) :
    Calls Try.prog 10 #[cloudV W H v m b] w fun e w' => ∃ v', e = .returned (.tuple #[v', .bool true]) ∧ RowN w' w.heap.size v' (ps.map (cellN W H)) ∧ Below w.heap.size w w' := by
  have VC := keep (fun w h' => ValidCloud_ok W H ps m b h B v w h')
  have CE := keep (fun w h' => cells_ok W H ps m b h B v w h')
  obtain ⟨A, c, rfl, _⟩ := qown_form hown
  have PP := Has.made w 29 #[.int .i64 W, .int .i64 H, .slice A ps.length c, .float .f32 m, .float .f32 b]
  have BB := (Below.refl w.heap.size w).alloc (Nat.le_refl _) (.cells #[.int .i64 W, .int .i64 H, .slice A ps.length c, .float .f32 m, .float .f32 b] 29)
  have HW := keep (owns_below hown BB)
  have P := keep PP
  have B0 := keep BB
  clear hown h PP BB
  unfold cloudV at *
  go_enter Try.func10, Try.ntmps10
  go_wp2_with fail
  refine (VC.out _ HW.out).mono ?_
  rintro e w1 ⟨rfl, hb⟩
  have cg := (P.out.after hb).cells
  have B1 := keep (B0.out.trans (hb.mono B0.out.size))
  have H1 := keep (owns_below HW.out hb)
  clear hb VC HW P B0
  go_wp2_with fail
  refine (CE.out _ H1.out).mono ?_
  rintro e w2 ⟨v', rfl, hr, hb⟩
  obtain ⟨A1, c1, rfl⟩ := own_slice hr
  have B2 := keep (B1.out.trans (hb.mono B1.out.size))
  have hr2 : w2.ownsRow w.heap.size 2 1 (.slice A1 ps.length c1) ps.length (nList (ps.map (cellN W H))) := by
    have e := own_base (B' := w.heap.size) hr (by have := B1.out.size; omega)
    rw [List.length_map] at e
    exact e
  have R2 := keep hr2
  clear hr hr2 hb CE H1
  go_wp2_with fail
  go_ret2
  exact ⟨.slice A1 ps.length c1, rfl, by unfold RowN; rw [List.length_map]; exact R2.out, B2.out⟩

set_option maxHeartbeats 4000000 in
set_option maxRecDepth 20000 in
theorem OrderOf_ok (W H : Nat) (ps : List QP) (m b : Nat) (h : CloudOk W H ps m b) (B : Nat) (v : Value) (w : World) (hown : RowQ w B v ps) :
    Calls Try.prog 8 #[cloudV W H v m b] w fun e w' => ∃ g, e = .returned (.tuple #[.slice (some ⟨g, 0, none⟩) ps.length ps.length, .bool true]) ∧ Has w' g 2 (nCells (orderL W H ps)) ∧ Below w.heap.size w w' := by
  have VC := keep (fun w h' => ValidCloud_ok W H ps m b h B v w h')
  have CE := keep (fun w h' => order_ok W H ps m b h B v w h')
  obtain ⟨A, c, rfl, _⟩ := qown_form hown
  have PP := Has.made w 29 #[.int .i64 W, .int .i64 H, .slice A ps.length c, .float .f32 m, .float .f32 b]
  have BB := (Below.refl w.heap.size w).alloc (Nat.le_refl _) (.cells #[.int .i64 W, .int .i64 H, .slice A ps.length c, .float .f32 m, .float .f32 b] 29)
  have HW := keep (owns_below hown BB)
  have P := keep PP
  have B0 := keep BB
  clear hown h PP BB
  unfold cloudV at *
  go_enter Try.func8, Try.ntmps8
  go_wp2_with fail
  refine (VC.out _ HW.out).mono ?_
  rintro e w1 ⟨rfl, hb⟩
  have cg := (P.out.after hb).cells
  have B1 := keep (B0.out.trans (hb.mono B0.out.size))
  have H1 := keep (owns_below HW.out hb)
  clear hb VC HW P B0
  go_wp2_with fail
  refine (CE.out _ H1.out).mono ?_
  rintro e w2 ⟨g, rfl, hr, hb⟩
  have B2 := keep (B1.out.trans (hb.mono B1.out.size))
  have R2 := keep hr
  clear hr hb CE H1
  go_wp2_with fail
  go_ret2
  exact ⟨_, rfl, R2.out, B2.out⟩

theorem orderL_in (W H : Nat) (h : Sides W H) (ps : List QP) : ∀ x ∈ orderL W H ps, x < ps.length := fun x hx =>
  List.mem_range.1 ((byKey_perm (keyOf W H ps) (W * H) ps.length (keyOf_lt W H h ps)).mem_iff.1 hx)
def sortQ (W H : Nat) (ps : List QP) : List QP := pickQ ps (orderL W H ps)

set_option maxHeartbeats 4000000 in
set_option maxRecDepth 20000 in
theorem SortCloud_ok (W H : Nat) (ps : List QP) (m b : Nat) (h : CloudOk W H ps m b) (B : Nat) (v : Value) (w : World) (hown : RowQ w B v ps) :
    Calls Try.prog 9 #[cloudV W H v m b] w fun e w' => ∃ v', e = .returned (.tuple #[cloudV W H v' m b, .bool true]) ∧ RowQ w' w.heap.size v' (sortQ W H ps) ∧ Below w.heap.size w w' := by
  have OL := orderL_length W H h.sides ps
  have OI := orderL_in W H h.sides ps
  have hl := h.len
  have VC := keep (fun w h' => ValidCloud_ok W H ps m b h B v w h')
  have OC := keep (fun w h' => order_ok W H ps m b h B v w h')
  have CH := keep (fun g w h' hg hc => chosen_n W H ps m b (orderL W H ps) ps.length OL hl OI B v g ps.length w h' hg hc)
  have WI := keep (fun v' B' w h' => with_ok W H ps v m b (sortQ W H ps) (cloud_pick h (by omega) OI) (by obtain ⟨A, c, e, _⟩ := qown_form hown; exact ⟨_, _, _, e⟩) B' v' w h')
  have SL := keep (show (pickQ ps (orderL W H ps)).length = ps.length by rw [pickQ_length, OL])
  have HW := keep hown
  obtain ⟨A, c, rfl, _⟩ := qown_form hown
  have OLk := keep OL
  clear hown h OI OL
  unfold cloudV at *
  have PP := (Has.made w 29 #[.int .i64 W, .int .i64 H, .slice A ps.length c, .float .f32 m, .float .f32 b]).beside (.cells cloudZ 29)
  have ZZ := Has.made (w.alloc (.cells #[.int .i64 W, .int .i64 H, .slice A ps.length c, .float .f32 m, .float .f32 b] 29)) 29 cloudZ
  have BB := ((Below.refl w.heap.size w).alloc (Nat.le_refl _) (.cells #[.int .i64 W, .int .i64 H, .slice A ps.length c, .float .f32 m, .float .f32 b] 29)).alloc (by simp only [World.size_alloc]; omega) (.cells cloudZ 29)
  rw [World.size_alloc] at ZZ
  have H0 := keep (owns_below HW.out BB)
  have P := keep PP
  have Z := keep ZZ
  have B0 := keep BB
  clear PP ZZ BB HW
  unfold cloudZ at *
  go_enter Try.func9, Try.ntmps9
  go_wp2_with fail
  refine (VC.out _ H0.out).mono ?_
  rintro e w1 ⟨rfl, hb⟩
  have p1 := P.out.after hb
  have z1 := Z.out.after hb
  have P1 := keep p1
  have Z1 := keep z1
  have cg := p1.cells
  have cz := z1.cells
  have uz := z1.free
  have lP := p1.in_heap
  have lZ := z1.in_heap
  have B1 := keep (B0.out.trans (hb.mono B0.out.size))
  have H1 := keep (owns_below H0.out hb)
  clear hb P B0 Z VC H0 p1 z1
  go_wp2_with fail
  go_region_law (first
    | (go_simp
       go_at_call 47
       refine (OC.out _ (owns_below H1.out (Below.drew (Below.refl _ _)))).mono ?_
       rintro e w2 ⟨g, rfl, hh, hb2⟩
       have P2 := keep (Has.after (w := w1.drew) P1.out hb2)
       have Z2 := keep (Has.after (w := w1.drew) Z1.out hb2)
       have H2 := keep (owns_below (owns_below H1.out (Below.drew (Below.refl _ _))) hb2)
       have B2 := keep ((Below.drew B1.out).trans (hb2.mono (Below.drew B1.out).size))
       have G2 := keep hh
       have cg2 := P2.out.cells
       clear hh hb2)
    | (go_simp
       go_at_call 49
       refine (CH.out g _ H2.out G2.out.in_heap (fun i hi => (G2.out.cells i).trans (nCells_at _ i hi))).mono ?_
       rintro e w3 ⟨v3, rfl, hr3, hb3⟩
       obtain ⟨A3, c3, rfl⟩ := own_slice hr3
       unfold RowQ at hr3
       rw [SL.out] at hr3 ⊢
       have P3 := keep (P2.out.after hb3)
       have Z3 := keep (Z2.out.after hb3)
       have B3 := keep (B2.out.trans (hb3.mono B2.out.size))
       have R3 := keep hr3
       have cg3 := P3.out.cells
       clear hr3 hb3)
    | (go_simp
       go_at_call 48
       refine (WI.out _ _ _ (by unfold RowQ sortQ; rw [SL.out]; exact R3.out)).mono ?_
       rintro e w4 ⟨rfl, hb4⟩
       have Z4 := keep (Z3.out.after hb4)
       have B4 := keep (B3.out.trans (hb4.mono B3.out.size))
       have R4 := keep (owns_below R3.out hb4)
       have cz4 := Z4.out.cells
       have uz4 := Z4.out.free
       clear hb4))
  all_goals (
    have qc := setCloud_cells Z4.out W H (.slice A3 ps.length c3) m b
    have l1 := P2.out.in_heap
    have l2 := Z2.out.in_heap
    have l3 := B2.out.size
    have R5 := keep (own_base (setCloud_own R4.out (show w.heap.size + 1 < w2.heap.size + 1 by omega) W H (.slice A3 ps.length c3) m b) (show w.heap.size ≤ w2.heap.size + 1 by omega))
    have B5 := keep (setCloud_below B4.out (show w.heap.size ≤ w.heap.size + 1 by omega) W H (.slice A3 ps.length c3) m b)
    unfold setCloud at R5 B5
    clear cg cz uz cg2 cg3 cz4 uz4
    go_wp2_with fail
    exact bodyPost_ret (v := .tuple #[.agg #[.int .i64 W, .int .i64 H, .slice A3 ps.length c3, .float .f32 m, .float .f32 b], .bool true]) (by simp [results, Try.results9, go_sem, qc]) rfl ⟨.slice A3 ps.length c3, rfl, by unfold RowQ sortQ; rw [SL.out]; exact R5.out, B5.out⟩)
end Go.Proofs.Ytnmdgbnophclnaa
