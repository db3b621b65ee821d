/- Contracts: particles that are moved by whole cells; a cloud that is moved. -/
import Derived.Test.YtnmdgbnophclnaaPb
import Derived.Test.YtnmdgbnophclnaaOg
namespace Go.Proofs.Ytnmdgbnophclnaa
open Go.RowKit Go.Sort Ieee
set_option linter.unusedSimpArgs false

/-- Of the first i particles one cell is changed. -/
def MixQ (f0 f1 : QP → PD) (gs : List QP) (i : Nat) (cur : Array Value) : Prop := ∀ k (hk : k < gs.length) j, j < 4 → cur[k * 4 + j]? = (if k < i then f1 gs[k] else f0 gs[k]).cells[j]?
theorem MixQ.start {f0 f1 : QP → PD} {gs : List QP} {cur : Array Value} (h : cur.toList.take (gs.length * 4) = psCells (gs.map f0)) : MixQ f0 f1 gs 0 cur := by
  intro k hk j hj
  have hk' : k < (gs.map f0).length := by rw [List.length_map]; exact hk
  have e := psCells_at (gs.map f0) k hk' j hj
  rw [List.getElem_map] at e
  rw [if_neg (by omega), ← e, ← h, List.getElem?_take_of_lt (by omega), Array.getElem?_toList]
theorem MixQ.step {f0 f1 : QP → PD} {gs : List QP} {i : Nat} {cur : Array Value} (h : MixQ f0 f1 gs i cur) (hi : i < gs.length) (c : Nat) (V : Value) (hc : c < 4) (hs : i * 4 + c < cur.size) (h1 : (f1 gs[i]).cells[c]? = some V) (h2 : ∀ j, j < 4 → j ≠ c → (f1 gs[i]).cells[j]? = (f0 gs[i]).cells[j]?) : MixQ f0 f1 gs (i + 1) (cur.setIfInBounds (i * 4 + c) V) := by
  intro k hk j hj
  by_cases hki : k = i
  · subst hki
    rw [if_pos (by omega)]
    by_cases hjc : j = c
    · subst hjc
      rw [Array.getElem?_setIfInBounds_self_of_lt hs, h1]
    · rw [Array.getElem?_setIfInBounds_ne (by omega), h2 j hj hjc, h k hk j hj, if_neg (by omega)]
  · rw [Array.getElem?_setIfInBounds_ne (by omega), h k hk j hj]
    by_cases hlt : k < i
    · rw [if_pos hlt, if_pos (by omega)]
    · rw [if_neg hlt, if_neg (by omega)]
theorem MixQ.done {f0 f1 : QP → PD} {gs : List QP} {cur : Array Value} (h : MixQ f0 f1 gs gs.length cur) (hs : gs.length * 4 ≤ cur.size) : cur.toList.take (gs.length * 4) = psCells (gs.map f1) := by
  refine psCells_ext _ _ ?_ fun k hk j hj => ?_
  · rw [List.length_take, List.length_map]
    have : cur.toList.length = cur.size := rfl
    omega
  · rw [List.length_map] at hk
    rw [List.getElem?_take_of_lt (by omega), Array.getElem?_toList, h k hk j hj, if_pos hk, List.getElem_map]

/-- A particle that is moved by whole cells. -/
def shiftQ (W H : Nat) (X Y : Int) (p : QP) : QP := ⟨md (p.x + 8 * X) W, md (p.y + 8 * Y) H, p.u, p.v, p.q, p.m⟩
theorem shiftQ_cells (W H : Nat) (X Y : Int) (p : QP) : (shiftQ W H X Y p).pd.cells = [.complex .f32 (wd single 3 (md (p.x + 8 * X) W)) (wd single 3 (md (p.y + 8 * Y) H)), .complex .f32 (wd single 3 p.u) (wd single 3 p.v), .float .f32 (wd single 2 p.q), .float .f32 (wd single 1 p.m)] := by
  simp only [shiftQ, QP.pd, PD.cells]
theorem shiftQ_ok {W H : Nat} (h : Sides W H) (X Y : Int) {p : QP} (hp : p.ok) : (shiftQ W H X Y p).ok := by
  obtain ⟨⟨h1, h2⟩, h3, h4⟩ := h
  obtain ⟨m0, m1⟩ := md_bounds (p.x + 8 * X) W h1
  obtain ⟨n0, n1⟩ := md_bounds (p.y + 8 * Y) H h3
  obtain ⟨_, _, p3, p4, p5, p6⟩ := hp
  refine ⟨⟨?_, ?_⟩, ⟨?_, ?_⟩, p3, p4, p5, p6⟩
  all_goals (unfold shiftQ; simp only; omega)

set_option maxHeartbeats 4000000 in
set_option maxRecDepth 20000 in
theorem ShiftParticlesQ_ok (W H : Nat) (h : Sides W H) (X Y : Int) (hX : X.natAbs ≤ 4) (hY : Y.natAbs ≤ 4) (B : Nat) (v : Value) (gs : List QP) (w : World) (hown : w.ownsRow B 52 4 v gs.length (psCells (gs.map QP.pd))) (hok : ∀ p ∈ gs, p.ok) (hN : gs.length ≤ 6) :
    Calls Try.prog 60 #[gridV W H, v, placeV (8 * X) (8 * Y)] w fun e w' => ∃ (A : Option Addr) (c : Nat), e = .returned (.tuple #[.slice A gs.length c, .bool true]) ∧ w'.ownsRow w.heap.size 52 4 (.slice A gs.length c) gs.length (psCells (gs.map fun p => (shiftQ W H X Y p).pd)) ∧ Below w.heap.size w w' := by
  have hpl : PlaceOk (8 * X) (8 * Y) := ⟨⟨by omega, by omega⟩, by omega, by omega⟩
  have IP := keep (fun w => isPlace_ok W H h _ _ hpl.fin w)
  have AP := keep (fun w h => AregQ_ok B v gs w h hok hN)
  have CL := keep (fun w (h : w.ownsRow B 52 4 v gs.length (psCells (gs.map QP.pd))) => Clone_ok B v (gs.map QP.pd) w (by rw [List.length_map]; exact h) (by rw [List.length_map]; omega))
  simp only [List.length_map] at CL
  have WP := keep (fun x y hp w => wrapPlace_ok W H h x y hp w)
  have HH := keep hown
  have HO := keep hok
  have P := keep (Has.made w 25 #[.int .i64 W, .int .i64 H])
  have B0 := keep ((Below.refl w.heap.size w).alloc (Nat.le_refl _) (.cells #[.int .i64 W, .int .i64 H] 25))
  obtain ⟨A, c, rfl⟩ := own_slice hown
  clear hown hok h hpl
  unfold gridV placeV at *
  go_enter Try.func60, Try.ntmps60
  go_wp2_with fail
  refine (IP.out _).mono ?_
  rintro e w1 ⟨rfl, hb⟩
  have B1 := keep (B0.out.trans (hb.mono B0.out.size))
  have P1 := keep (P.out.after hb)
  have O1 := keep (owns_below HH.out B1.out)
  clear hb B0 P IP HH
  go_wp2_with fail
  refine (AP.out _ O1.out).mono ?_
  rintro e w2 ⟨rfl, hb⟩
  have B2 := keep (B1.out.trans (hb.mono B1.out.size))
  have P2 := keep (P1.out.after hb)
  have O2 := keep (owns_below O1.out hb)
  clear hb B1 P1 O1 AP
  go_wp2_with fail
  refine (CL.out _ O2.out).mono ?_
  rintro e w4 ⟨D, d, rfl, hown, hb⟩
  have OW := keep hown
  have P4 := keep (P2.out.after hb)
  have l4 := P2.out.in_heap
  have B4 := keep (B2.out.trans (hb.mono B2.out.size))
  have z2 := B2.out.size
  clear hown hb O2 B2 P2 CL
  go_wp2_with fail
  rcases OW.out.2 with ⟨he, hn⟩ | ⟨g, cap, cur, he, hB, hg, hnc, hcm, hcs, htake⟩
  · obtain rfl : gs = [] := List.eq_nil_of_length_eq_zero hn
    injection he with he1 he2 he3
    subst he1
    subst he3
    refine wp_loop_rounds 1 ?_
    rw [rounds_succ]
    go_wp2_with fail
    go_ret2
    exact ⟨none, 0, rfl, World.ownsRow_nil _ _ _ _, B4.out⟩
  · injection he with he1 he2 he3
    subst he1
    subst he3
    have hBg : w.heap.size ≤ g := Nat.le_trans z2 hB
    have hgP : w.heap.size ≠ g := by omega
    go_loopw [25] (fun s wr => ∃ (i : Nat) (cur : Array Value), i ≤ gs.length ∧ s = .int .i64 i ∧ Has wr g 52 cur ∧ Kept (Has wr w.heap.size 25 #[.int .i64 W, .int .i64 H]) ∧ Kept (cur.size = d * 4) ∧ Kept (MixQ QP.pd (fun p => (shiftQ W H X Y p).pd) gs i cur) ∧ Kept (Below w.heap.size w wr)) (fun s _ => gs.length - (intOf s).toNat)
    case atStart => exact ⟨0, cur, Nat.zero_le _, rfl, hg, P4, keep hcs, keep (MixQ.start htake), B4⟩
    case round =>
      clear B4 OW hg htake hcs P4
      obtain ⟨i, cur2, hi, rfl, hh, hP, hsz, hmix, hb⟩ := hrel
      by_cases hlt : i < gs.length
      · have h4 : ∀ j u, j < 4 → gs[i].pd.cells[j]? = some u → wr.cell? ⟨g, i * 4 + j, none⟩ = some u := fun j u hj hu => by
          rw [hh.cells, hmix.out i hlt j hj, if_neg (by omega)]
          exact hu
        have c0 : wr.cell? ⟨g, i * 4, none⟩ = some (.complex .f32 (wd single 3 gs[i].x) (wd single 3 gs[i].y)) := h4 0 _ (by omega) (by rw [QP.pd_cells]; rfl)
        have c1 : wr.cell? ⟨g, i * 4 + 1, none⟩ = some (.complex .f32 (wd single 3 gs[i].u) (wd single 3 gs[i].v)) := h4 1 _ (by omega) (by rw [QP.pd_cells]; rfl)
        have c2 : wr.cell? ⟨g, i * 4 + 2, none⟩ = some (.float .f32 (wd single 2 gs[i].q)) := h4 2 _ (by omega) (by rw [QP.pd_cells]; rfl)
        have c3 : wr.cell? ⟨g, i * 4 + 3, none⟩ = some (.float .f32 (wd single 1 gs[i].m)) := h4 3 _ (by omega) (by rw [QP.pd_cells]; rfl)
        have zc : i * 4 + 0 < cur2.size := by have := hsz.out; omega
        have M2 := hmix.out.step hlt 0 (.complex .f32 (wd single 3 (md (gs[i].x + 8 * X) W)) (wd single 3 (md (gs[i].y + 8 * Y) H))) (by omega) zc (by simp only [shiftQ_cells, List.getElem?_cons_zero]) (fun j hj hne => by
          have : j = 1 ∨ j = 2 ∨ j = 3 := by omega
          simp only [shiftQ_cells, QP.pd_cells]
          exact cells4_at _ _ _ _ _ j this)
        rw [Nat.add_zero] at M2
        have M2 := keep M2
        have hp := HO.out _ (List.getElem_mem hlt)
        have HSZ := keep (show (cur2.setIfInBounds (i * 4) (.complex .f32 (wd single 3 (md (gs[i].x + 8 * X) W)) (wd single 3 (md (gs[i].y + 8 * Y) H)))).size = d * 4 from by simp [hsz.out])
        have H0 := keep hh
        clear h4 hh hmix
        generalize gs[i] = p at *
        obtain ⟨⟨x0, x1⟩, ⟨y0, y1⟩, _⟩ := hp
        have hpo : PlaceOk (p.x + 8 * X) (p.y + 8 * Y) := ⟨⟨by omega, by omega⟩, by omega, by omega⟩
        have PL := keep (fun w => plus_any _ _ _ _ _ _ (fadd (k := 3) (a := p.x) (b := 8 * X) (by omega) (by omega) (by omega) (by omega)) (fadd (k := 3) (a := p.y) (b := 8 * Y) (by omega) (by omega) (by omega) (by omega)) w)
        have IC' := fun w => IsFiniteC (wd single 3 (p.x + 8 * X)) (wd single 3 (p.y + 8 * Y)) w
        rw [hpo.fin] at IC'
        have IC := keep IC'
        have WQ := keep (fun w => WP.out _ _ hpo w)
        have hgr := H0.out.in_heap
        clear IC' hpo x0 x1 y0 y1 zc
        go_wp2_with fail
        refine (PL.out _).mono ?_
        rintro e w5 ⟨rfl, rfl⟩
        go_wp2_with fail
        refine (IC.out _).mono ?_
        rintro e w6 ⟨rfl, m, rfl⟩
        have hP6 := ((hP.out.beside (.cells #[.complex .f32 (wd single 3 p.x) (wd single 3 p.y), .complex .f32 (wd single 3 p.u) (wd single 3 p.v), .float .f32 (wd single 2 p.q), .float .f32 (wd single 1 p.m)] 52)).draws m)
        have cg := (hP.out.beside (.cells #[.complex .f32 (wd single 3 p.x) (wd single 3 p.y), .complex .f32 (wd single 3 p.u) (wd single 3 p.v), .float .f32 (wd single 2 p.q), .float .f32 (wd single 1 p.m)] 52)).cells
        have B6 := keep (Below.drewN_of (hb.out.alloc hb.out.size (.cells #[.complex .f32 (wd single 3 p.x) (wd single 3 p.y), .complex .f32 (wd single 3 p.u) (wd single 3 p.v), .float .f32 (wd single 2 p.q), .float .f32 (wd single 1 p.m)] 52)) m)
        have H6 := keep ((H0.out.beside (.cells #[.complex .f32 (wd single 3 p.x) (wd single 3 p.y), .complex .f32 (wd single 3 p.u) (wd single 3 p.v), .float .f32 (wd single 2 p.q), .float .f32 (wd single 1 p.m)] 52)).draws m)
        have HP6 := keep hP6
        clear hP6 H0 hb hP c0 c1 c2 c3
        go_wp2_with fail
        refine (WQ.out _).mono ?_
        rintro e w7 ⟨rfl, hb7⟩
        have H7 := H6.out.after hb7
        have e0 := H7.cells
        have e1 := H7.free
        obtain ⟨x0, d0⟩ : ∃ x, w7.cell? ⟨g, i * 4, none⟩ = some x := ⟨cur2[i * 4]'(by have := hsz.out; omega), (e0 _).trans (Array.getElem?_eq_getElem _)⟩
        have u0 := e1 (i * 4)
        have hg7 := H7.in_heap
        have H8 := keep (H7.written (i * 4) (.complex .f32 (wd single 3 (md (p.x + 8 * X) W)) (wd single 3 (md (p.y + 8 * Y) H))))
        have P8 := keep ((HP6.out.after hb7).elsewhere (p := ⟨g, i * 4, none⟩) hgP (.complex .f32 (wd single 3 (md (p.x + 8 * X) W)) (wd single 3 (md (p.y + 8 * Y) H))))
        have B8 := keep ((B6.out.trans (hb7.mono B6.out.size)).setCell (p := ⟨g, i * 4, none⟩) hBg (.complex .f32 (wd single 3 (md (p.x + 8 * X) W)) (wd single 3 (md (p.y + 8 * Y) H))))
        clear H7 e0 e1 hb7 cg H6 HP6 B6
        go_wp2_with fail
        go_roundw
        case rel => exact ⟨i + 1, _, by omega, by go_num, H8.out, P8, HSZ, M2, B8⟩
        case measure => simp [intOf]; omega
      · obtain rfl : i = gs.length := by omega
        have t0 := hmix.out.done (by have := hsz.out; omega)
        have ow : wr.ownsRow w.heap.size 52 4 (.slice (some ⟨g, 0, none⟩) gs.length d) gs.length (psCells (gs.map fun p => (shiftQ W H X Y p).pd)) := ⟨by rw [psCells_length, List.length_map], .inr ⟨g, d, cur2, rfl, hBg, hh, hnc, hcm, hsz.out, t0⟩⟩
        have OW2 := keep ow
        clear ow t0 hh
        go_wp2_with fail
        go_ret2
        exact ⟨_, _, rfl, OW2.out, hb.out⟩
def moveQ (W H : Nat) (X Y : Int) (ps : List QP) : List QP := ps.map (shiftQ W H X Y)
theorem moveQ_length (W H : Nat) (X Y : Int) (ps : List QP) : (moveQ W H X Y ps).length = ps.length := List.length_map _
theorem moveQ_pd (W H : Nat) (X Y : Int) (ps : List QP) : psQ (moveQ W H X Y ps) = psCells (ps.map fun p => (shiftQ W H X Y p).pd) := by
  unfold psQ moveQ
  rw [List.map_map]
  rfl
theorem moveQ_g (W H : Nat) (X Y : Int) (ps : List QP) : (moveQ W H X Y ps).map QP.g = (ps.map QP.g).map (shiftG W H X Y) := by
  unfold moveQ
  rw [List.map_map, List.map_map]
  rfl
theorem cloud_move {W H m b : Nat} {ps : List QP} (h : CloudOk W H ps m b) (X Y : Int) : CloudOk W H (moveQ W H X Y ps) m b :=
  ⟨h.sides, by rw [moveQ_length]; exact h.len, fun q hq => by
    obtain ⟨p, hp, rfl⟩ := List.mem_map.1 hq
    exact shiftQ_ok h.sides X Y (h.parts p hp), h.finm, h.finb⟩
theorem depQ_move (W H : Nat) (h : Sides W H) (X Y : Int) (ps : List QP) : depQ W H (moveQ W H X Y ps) = shiftF W H X Y (depQ W H ps) := by
  unfold depQ
  rw [moveQ_g]
  exact shift_law W H (by have := h.1.1; omega) (by have := h.2.1; omega) X Y _

set_option maxHeartbeats 4000000 in
set_option maxRecDepth 20000 in
theorem MoveCloud_ok (W H : Nat) (ps : List QP) (m b : Nat) (h : CloudOk W H ps m b) (X Y : Int) (hX : X.natAbs ≤ 4) (hY : Y.natAbs ≤ 4) (B : Nat) (v : Value) (w : World) (hown : RowQ w B v ps) :
    Calls Try.prog 18 #[cloudV W H v m b, .int .i64 X, .int .i64 Y] w fun e w' => ∃ v', e = .returned (.tuple #[cloudV W H v' m b, .bool true]) ∧ RowQ w' w.heap.size v' (moveQ W H X Y ps) ∧ Below w.heap.size w w' := by
  have VC := keep (fun w h' => ValidCloud_ok W H ps m b h B v w h')
  have SP := keep (fun w h' => ShiftParticlesQ_ok W H h.sides X Y hX hY B v ps w h' h.parts h.len)
  have WI := keep (fun v' B' w h' => with_ok W H ps v m b (moveQ W H X Y ps) (cloud_move h X Y) (by obtain ⟨A, c, e, _⟩ := qown_form hown; exact ⟨_, _, _, e⟩) B' v' w h')
  have WX := within_any X (-1000) 1000
  have WY := within_any Y (-1000) 1000
  rw [decide_eq_true (show -1000 ≤ X by omega), decide_eq_true (show X ≤ 1000 by omega)] at WX
  rw [decide_eq_true (show -1000 ≤ Y by omega), decide_eq_true (show Y ≤ 1000 by omega)] at WY
  have WX := keep WX
  have WY := keep WY
  have ix := int_word X (by omega)
  have iy := int_word Y (by omega)
  have HW := keep hown
  have ML := keep (moveQ_length W H X Y ps)
  have MP := keep (moveQ_pd W H X Y ps)
  obtain ⟨A, c, rfl, _⟩ := qown_form hown
  clear hown h
  unfold cloudV gridV placeV at *
  have PP := (Has.made w 29 #[.int .i64 W, .int .i64 H, .slice A ps.length c, .float .f32 m, .float .f32 b]).beside (.cells cloudZ 29)
  have ZZ := Has.made (w.alloc (.cells #[.int .i64 W, .int .i64 H, .slice A ps.length c, .float .f32 m, .float .f32 b] 29)) 29 cloudZ
  have BB := ((Below.refl w.heap.size w).alloc (Nat.le_refl _) (.cells #[.int .i64 W, .int .i64 H, .slice A ps.length c, .float .f32 m, .float .f32 b] 29)).alloc (by simp only [World.size_alloc]; omega) (.cells cloudZ 29)
  rw [World.size_alloc] at ZZ
  have H0 := keep (owns_below HW.out BB)
  have P := keep PP
  have Z := keep ZZ
  have B0 := keep BB
  clear PP ZZ BB HW
  unfold cloudZ at *
  go_enter Try.func18, Try.ntmps18
  have cg := P.out.cells
  go_wp2_with fail
  refine (VC.out _ H0.out).mono ?_
  rintro e w1 ⟨rfl, hb⟩
  have p1 := P.out.after hb
  have P1 := keep p1
  have Z1 := keep (Z.out.after hb)
  have ZL := keep (show w.heap.size + 2 ≤ w1.heap.size from (Z.out.after hb).in_heap)
  clear cg
  have cg := p1.cells
  have B1 := keep (B0.out.trans (hb.mono B0.out.size))
  have H1 := keep (owns_below H0.out hb)
  clear hb P B0 Z VC H0 p1
  go_wp2_with fail
  refine (WX.out _).mono ?_
  rintro e wz ⟨rfl, hwz⟩
  have hwz := hwz.symm
  subst hwz
  clear WX
  go_wp2_with fail
  refine (WY.out _).mono ?_
  rintro e wz ⟨rfl, hwz⟩
  have hwz := hwz.symm
  subst hwz
  clear WY
  go_wp2_with fail
  refine (SP.out _ H1.out).mono ?_
  rintro e w2 ⟨A2, c2, rfl, hr, hb⟩
  have p2 := P1.out.after hb
  have P2 := keep p2
  have Z2 := keep (Z1.out.after hb)
  clear cg
  have cg := p2.cells
  have B2 := keep (B1.out.trans (hb.mono B1.out.size))
  have zz := B1.out.size
  have R2 := keep hr
  clear hb P1 B1 Z1 SP H1 p2 hr
  go_wp2_with fail
  refine (WI.out _ _ _ (by unfold RowQ; rw [ML.out, MP.out]; exact R2.out)).mono ?_
  rintro e w3 ⟨rfl, hb⟩
  have z3 := Z2.out.after hb
  have B3 := keep (B2.out.trans (hb.mono B2.out.size))
  have R3 := keep (owns_below R2.out hb)
  have cz := z3.cells
  have uz := z3.free
  have qc := setCloud_cells z3 W H (.slice A2 ps.length c2) m b
  have lz : w.heap.size + 2 ≤ w1.heap.size := ZL.out
  have R5 := keep (own_base (setCloud_own R3.out (show w.heap.size + 1 < w1.heap.size by omega) W H (.slice A2 ps.length c2) m b) (show w.heap.size ≤ w1.heap.size by omega))
  have B5 := keep (setCloud_below B3.out (show w.heap.size ≤ w.heap.size + 1 by omega) W H (.slice A2 ps.length c2) m b)
  unfold setCloud at R5 B5
  clear cg z3 WI
  go_wp2_with fail
  exact bodyPost_ret (v := .tuple #[.agg #[.int .i64 W, .int .i64 H, .slice A2 ps.length c2, .float .f32 m, .float .f32 b], .bool true]) (by simp [results, Try.results18, go_sem, qc]) rfl ⟨.slice A2 ps.length c2, rfl, by unfold RowQ; rw [ML.out, MP.out]; exact R5.out, B5.out⟩
end Go.Proofs.Ytnmdgbnophclnaa
