/- Contract: particles that are moved by whole cells. -/
import Derived.Test.YtnmdgbnophclnaaKc
namespace Go.Proofs.Ytnmdgbnophclnaa
open Go.RowKit Go.Sort Ieee
set_option linter.unusedSimpArgs false

/-- Of the first i particles one cell is changed. -/
def MixG (f0 f1 : GP → PD) (gs : List GP) (i : Nat) (cur : Array Value) : Prop := ∀ k (hk : k < gs.length) j, j < 4 → cur[k * 4 + j]? = (if k < i then f1 gs[k] else f0 gs[k]).cells[j]?
theorem MixG.start {f0 f1 : GP → PD} {gs : List GP} {cur : Array Value} (h : cur.toList.take (gs.length * 4) = psCells (gs.map f0)) : MixG f0 f1 gs 0 cur := by
  intro k hk j hj
  have hk' : k < (gs.map f0).length := by rw [List.length_map]; exact hk
  have e := psCells_at (gs.map f0) k hk' j hj
  rw [List.getElem_map] at e
  rw [if_neg (by omega), ← e, ← h, List.getElem?_take_of_lt (by omega), Array.getElem?_toList]
theorem MixG.step {f0 f1 : GP → PD} {gs : List GP} {i : Nat} {cur : Array Value} (h : MixG f0 f1 gs i cur) (hi : i < gs.length) (c : Nat) (V : Value) (hc : c < 4) (hs : i * 4 + c < cur.size) (h1 : (f1 gs[i]).cells[c]? = some V) (h2 : ∀ j, j < 4 → j ≠ c → (f1 gs[i]).cells[j]? = (f0 gs[i]).cells[j]?) : MixG f0 f1 gs (i + 1) (cur.setIfInBounds (i * 4 + c) V) := by
  intro k hk j hj
  by_cases hki : k = i
  · subst hki
    rw [if_pos (by omega)]
    by_cases hjc : j = c
    · subst hjc
      rw [Array.getElem?_setIfInBounds_self_of_lt hs, h1]
    · rw [Array.getElem?_setIfInBounds_ne (by omega), h2 j hj hjc, h k hk j hj, if_neg (by omega)]
  · rw [Array.getElem?_setIfInBounds_ne (by omega), h k hk j hj]
    by_cases hlt : k < i
    · rw [if_pos hlt, if_pos (by omega)]
    · rw [if_neg hlt, if_neg (by omega)]
theorem MixG.done {f0 f1 : GP → PD} {gs : List GP} {cur : Array Value} (h : MixG f0 f1 gs gs.length cur) (hs : gs.length * 4 ≤ cur.size) : cur.toList.take (gs.length * 4) = psCells (gs.map f1) := by
  refine psCells_ext _ _ ?_ fun k hk j hj => ?_
  · rw [List.length_take, List.length_map]
    have : cur.toList.length = cur.size := rfl
    omega
  · rw [List.length_map] at hk
    rw [List.getElem?_take_of_lt (by omega), Array.getElem?_toList, h k hk j hj, if_pos hk, List.getElem_map]

theorem int_word (n : Int) (h : n.natAbs ≤ 1000) : floatOfInt .f32 n = wd single 3 (8 * n) := by
  have h := wd_up fit_single binade_le_single (k := 0) (a := n) 3 (by decide) (by show n.natAbs < 16777216; omega)
  rw [ofInt_wd, ← h]
  show wd single 3 _ = _
  rw [show n * ((2 ^ 3 : Nat) : Int) = 8 * n by omega]

/-- A particle that is moved by whole cells. -/
def shiftG (W H : Nat) (X Y : Int) (p : GP) : GP := ⟨md (p.x + 8 * X) W, md (p.y + 8 * Y) H, p.u, p.v, p.q, p.m⟩
theorem cells4_at (a a' b c d : Value) (j : Nat) (h : j = 1 ∨ j = 2 ∨ j = 3) : [a, b, c, d][j]? = [a', b, c, d][j]? := by
  rcases h with rfl | rfl | rfl <;> rfl
theorem shiftG_cells (W H : Nat) (X Y : Int) (p : GP) : (shiftG W H X Y p).pd.cells = [.complex .f32 (wd single 3 (md (p.x + 8 * X) W)) (wd single 3 (md (p.y + 8 * Y) H)), .complex .f32 (wd single 3 p.u) (wd single 3 p.v), .float .f32 (wd single 1 p.q), .float .f32 (wd single 2 p.m)] := by
  simp only [shiftG, GP.pd, PD.cells]
theorem GP.pd_cells (p : GP) : p.pd.cells = [.complex .f32 (wd single 3 p.x) (wd single 3 p.y), .complex .f32 (wd single 3 p.u) (wd single 3 p.v), .float .f32 (wd single 1 p.q), .float .f32 (wd single 2 p.m)] := by
  simp only [GP.pd, PD.cells]
theorem shiftG_ok {W H : Nat} (h : Sides W H) (X Y : Int) {p : GP} (hp : p.ok) : (shiftG W H X Y p).ok := by
  obtain ⟨⟨h1, h2⟩, h3, h4⟩ := h
  obtain ⟨m0, m1⟩ := md_bounds (p.x + 8 * X) W h1
  obtain ⟨n0, n1⟩ := md_bounds (p.y + 8 * Y) H h3
  obtain ⟨_, _, p3, p4, p5, p6⟩ := hp
  refine ⟨⟨?_, ?_⟩, ⟨?_, ?_⟩, p3, p4, p5, p6⟩
  all_goals (unfold shiftG; simp only; omega)

set_option maxHeartbeats 4000000 in
set_option maxRecDepth 20000 in
theorem ShiftParticles_ok (W H : Nat) (h : Sides W H) (X Y : Int) (hX : X.natAbs ≤ 4) (hY : Y.natAbs ≤ 4) (B : Nat) (v : Value) (gs : List GP) (w : World) (hown : w.ownsRow B 52 4 v gs.length (psCells (gs.map GP.pd))) (hok : ∀ p ∈ gs, p.ok) (hN : gs.length ≤ 6) :
    Calls Try.prog 60 #[gridV W H, v, placeV (8 * X) (8 * Y)] w fun e w' => ∃ (A : Option Addr) (c : Nat), e = .returned (.tuple #[.slice A gs.length c, .bool true]) ∧ w'.ownsRow w.heap.size 52 4 (.slice A gs.length c) gs.length (psCells (gs.map fun p => (shiftG W H X Y p).pd)) ∧ Below w.heap.size w w' := by
  have hpl : PlaceOk (8 * X) (8 * Y) := ⟨⟨by omega, by omega⟩, by omega, by omega⟩
  have IP := keep (fun w => isPlace_ok W H h _ _ hpl.fin w)
  have AP := keep (fun w h => Areg_ok B v gs w h hok hN)
  have CL := keep (fun w (h : w.ownsRow B 52 4 v gs.length (psCells (gs.map GP.pd))) => Clone_ok B v (gs.map GP.pd) w (by rw [List.length_map]; exact h) (by rw [List.length_map]; omega))
  simp only [List.length_map] at CL
  have WP := keep (fun x y hp w => wrapPlace_ok W H h x y hp w)
  have HH := keep hown
  have HO := keep hok
  have P := keep (Has.made w 25 #[.int .i64 W, .int .i64 H])
  have B0 := keep ((Below.refl w.heap.size w).alloc (Nat.le_refl _) (.cells #[.int .i64 W, .int .i64 H] 25))
  obtain ⟨A, c, rfl⟩ := own_slice hown
  clear hown hok h hpl
  unfold gridV placeV at *
  go_enter Try.func60, Try.ntmps60
  go_wp2_with fail
  refine (IP.out _).mono ?_
  rintro e w1 ⟨rfl, hb⟩
  have B1 := keep (B0.out.trans (hb.mono B0.out.size))
  have P1 := keep (P.out.after hb)
  have O1 := keep (owns_below HH.out B1.out)
  clear hb B0 P IP HH
  go_wp2_with fail
  refine (AP.out _ O1.out).mono ?_
  rintro e w2 ⟨rfl, hb⟩
  have B2 := keep (B1.out.trans (hb.mono B1.out.size))
  have P2 := keep (P1.out.after hb)
  have O2 := keep (owns_below O1.out hb)
  clear hb B1 P1 O1 AP
  go_wp2_with fail
  refine (CL.out _ O2.out).mono ?_
  rintro e w4 ⟨D, d, rfl, hown, hb⟩
  have OW := keep hown
  have P4 := keep (P2.out.after hb)
  have l4 := P2.out.in_heap
  have B4 := keep (B2.out.trans (hb.mono B2.out.size))
  have z2 := B2.out.size
  clear hown hb O2 B2 P2 CL
  go_wp2_with fail
  rcases OW.out.2 with ⟨he, hn⟩ | ⟨g, cap, cur, he, hB, hg, hnc, hcm, hcs, htake⟩
  · obtain rfl : gs = [] := List.eq_nil_of_length_eq_zero hn
    injection he with he1 he2 he3
    subst he1
    subst he3
    refine wp_loop_rounds 1 ?_
    rw [rounds_succ]
    go_wp2_with fail
    go_ret2
    exact ⟨none, 0, rfl, World.ownsRow_nil _ _ _ _, B4.out⟩
  · injection he with he1 he2 he3
    subst he1
    subst he3
    have hBg : w.heap.size ≤ g := Nat.le_trans z2 hB
    have hgP : w.heap.size ≠ g := by omega
    go_loopw [25] (fun s wr => ∃ (i : Nat) (cur : Array Value), i ≤ gs.length ∧ s = .int .i64 i ∧ Has wr g 52 cur ∧ Kept (Has wr w.heap.size 25 #[.int .i64 W, .int .i64 H]) ∧ Kept (cur.size = d * 4) ∧ Kept (MixG GP.pd (fun p => (shiftG W H X Y p).pd) gs i cur) ∧ Kept (Below w.heap.size w wr)) (fun s _ => gs.length - (intOf s).toNat)
    case atStart => exact ⟨0, cur, Nat.zero_le _, rfl, hg, P4, keep hcs, keep (MixG.start htake), B4⟩
    case round =>
      clear B4 OW hg htake hcs P4
      obtain ⟨i, cur2, hi, rfl, hh, hP, hsz, hmix, hb⟩ := hrel
      by_cases hlt : i < gs.length
      · have h4 : ∀ j u, j < 4 → gs[i].pd.cells[j]? = some u → wr.cell? ⟨g, i * 4 + j, none⟩ = some u := fun j u hj hu => by
          rw [hh.cells, hmix.out i hlt j hj, if_neg (by omega)]
          exact hu
        have c0 : wr.cell? ⟨g, i * 4, none⟩ = some (.complex .f32 (wd single 3 gs[i].x) (wd single 3 gs[i].y)) := h4 0 _ (by omega) (by rw [GP.pd_cells]; rfl)
        have c1 : wr.cell? ⟨g, i * 4 + 1, none⟩ = some (.complex .f32 (wd single 3 gs[i].u) (wd single 3 gs[i].v)) := h4 1 _ (by omega) (by rw [GP.pd_cells]; rfl)
        have c2 : wr.cell? ⟨g, i * 4 + 2, none⟩ = some (.float .f32 (wd single 1 gs[i].q)) := h4 2 _ (by omega) (by rw [GP.pd_cells]; rfl)
        have c3 : wr.cell? ⟨g, i * 4 + 3, none⟩ = some (.float .f32 (wd single 2 gs[i].m)) := h4 3 _ (by omega) (by rw [GP.pd_cells]; rfl)
        have zc : i * 4 + 0 < cur2.size := by have := hsz.out; omega
        have M2 := hmix.out.step hlt 0 (.complex .f32 (wd single 3 (md (gs[i].x + 8 * X) W)) (wd single 3 (md (gs[i].y + 8 * Y) H))) (by omega) zc (by simp only [shiftG_cells, List.getElem?_cons_zero]) (fun j hj hne => by
          have : j = 1 ∨ j = 2 ∨ j = 3 := by omega
          simp only [shiftG_cells, GP.pd_cells]
          exact cells4_at _ _ _ _ _ j this)
        rw [Nat.add_zero] at M2
        have M2 := keep M2
        have hp := HO.out _ (List.getElem_mem hlt)
        have HSZ := keep (show (cur2.setIfInBounds (i * 4) (.complex .f32 (wd single 3 (md (gs[i].x + 8 * X) W)) (wd single 3 (md (gs[i].y + 8 * Y) H)))).size = d * 4 from by simp [hsz.out])
        have H0 := keep hh
        clear h4 hh hmix
        generalize gs[i] = p at *
        obtain ⟨⟨x0, x1⟩, ⟨y0, y1⟩, _⟩ := hp
        have hpo : PlaceOk (p.x + 8 * X) (p.y + 8 * Y) := ⟨⟨by omega, by omega⟩, by omega, by omega⟩
        have PL := keep (fun w => plus_any _ _ _ _ _ _ (fadd (k := 3) (a := p.x) (b := 8 * X) (by omega) (by omega) (by omega) (by omega)) (fadd (k := 3) (a := p.y) (b := 8 * Y) (by omega) (by omega) (by omega) (by omega)) w)
        have IC' := fun w => IsFiniteC (wd single 3 (p.x + 8 * X)) (wd single 3 (p.y + 8 * Y)) w
        rw [hpo.fin] at IC'
        have IC := keep IC'
        have WQ := keep (fun w => WP.out _ _ hpo w)
        have hgr := H0.out.in_heap
        clear IC' hpo x0 x1 y0 y1 zc
        go_wp2_with fail
        refine (PL.out _).mono ?_
        rintro e w5 ⟨rfl, rfl⟩
        go_wp2_with fail
        refine (IC.out _).mono ?_
        rintro e w6 ⟨rfl, m, rfl⟩
        have hP6 := ((hP.out.beside (.cells #[.complex .f32 (wd single 3 p.x) (wd single 3 p.y), .complex .f32 (wd single 3 p.u) (wd single 3 p.v), .float .f32 (wd single 1 p.q), .float .f32 (wd single 2 p.m)] 52)).draws m)
        have cg := (hP.out.beside (.cells #[.complex .f32 (wd single 3 p.x) (wd single 3 p.y), .complex .f32 (wd single 3 p.u) (wd single 3 p.v), .float .f32 (wd single 1 p.q), .float .f32 (wd single 2 p.m)] 52)).cells
        have B6 := keep (Below.drewN_of (hb.out.alloc hb.out.size (.cells #[.complex .f32 (wd single 3 p.x) (wd single 3 p.y), .complex .f32 (wd single 3 p.u) (wd single 3 p.v), .float .f32 (wd single 1 p.q), .float .f32 (wd single 2 p.m)] 52)) m)
        have H6 := keep ((H0.out.beside (.cells #[.complex .f32 (wd single 3 p.x) (wd single 3 p.y), .complex .f32 (wd single 3 p.u) (wd single 3 p.v), .float .f32 (wd single 1 p.q), .float .f32 (wd single 2 p.m)] 52)).draws m)
        have HP6 := keep hP6
        clear hP6 H0 hb hP c0 c1 c2 c3
        go_wp2_with fail
        refine (WQ.out _).mono ?_
        rintro e w7 ⟨rfl, hb7⟩
        have H7 := H6.out.after hb7
        have e0 := H7.cells
        have e1 := H7.free
        obtain ⟨x0, d0⟩ : ∃ x, w7.cell? ⟨g, i * 4, none⟩ = some x := ⟨cur2[i * 4]'(by have := hsz.out; omega), (e0 _).trans (Array.getElem?_eq_getElem _)⟩
        have u0 := e1 (i * 4)
        have hg7 := H7.in_heap
        have H8 := keep (H7.written (i * 4) (.complex .f32 (wd single 3 (md (p.x + 8 * X) W)) (wd single 3 (md (p.y + 8 * Y) H))))
        have P8 := keep ((HP6.out.after hb7).elsewhere (p := ⟨g, i * 4, none⟩) hgP (.complex .f32 (wd single 3 (md (p.x + 8 * X) W)) (wd single 3 (md (p.y + 8 * Y) H))))
        have B8 := keep ((B6.out.trans (hb7.mono B6.out.size)).setCell (p := ⟨g, i * 4, none⟩) hBg (.complex .f32 (wd single 3 (md (p.x + 8 * X) W)) (wd single 3 (md (p.y + 8 * Y) H))))
        clear H7 e0 e1 hb7 cg H6 HP6 B6
        go_wp2_with fail
        go_roundw
        case rel => exact ⟨i + 1, _, by omega, by go_num, H8.out, P8, HSZ, M2, B8⟩
        case measure => simp [intOf]; omega
      · obtain rfl : i = gs.length := by omega
        have t0 := hmix.out.done (by have := hsz.out; omega)
        have ow : wr.ownsRow w.heap.size 52 4 (.slice (some ⟨g, 0, none⟩) gs.length d) gs.length (psCells (gs.map fun p => (shiftG W H X Y p).pd)) := ⟨by rw [psCells_length, List.length_map], .inr ⟨g, d, cur2, rfl, hBg, hh, hnc, hcm, hsz.out, t0⟩⟩
        have OW2 := keep ow
        clear ow t0 hh
        go_wp2_with fail
        go_ret2
        exact ⟨_, _, rfl, OW2.out, hb.out⟩
end Go.Proofs.Ytnmdgbnophclnaa
