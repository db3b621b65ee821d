/- Contract: a list thrown back. -/
import Derived.Test.YtmnpijhnfdiomaaHf
namespace Go.Proofs.Ytmnpijhnfdiomaa
open Go.RowKit Go.Sort Ieee
set_option linter.unusedSimpArgs false

theorem own_base {w : World} {B B' e size n : Nat} {v : Value} {xs : List Value} (h : w.ownsRow B e size v n xs) (hB : B' ≤ B) : w.ownsRow B' e size v n xs := by
  refine ⟨h.1, ?_⟩
  rcases h.2 with h1 | ⟨g, cap, cur, h1, h2, h3⟩
  · exact .inl h1
  · exact .inr ⟨g, cap, cur, h1, Nat.le_trans hB h2, h3⟩
def cntOut (L H : Int) (gs : List GP) : Nat := (gs.filter (isOut L H)).length
theorem cntOut_take (L H : Int) (gs : List GP) (i : Nat) (h : i < gs.length) : cntOut L H (gs.take (i + 1)) = cntOut L H (gs.take i) + (if isOut L H gs[i] then 1 else 0) := by
  unfold cntOut
  rw [filter_take (isOut L H) gs i h, List.length_append]
  cases isOut L H gs[i] <;> rfl

theorem reflAll_ok {L H : Int} (hw : Walls L H) (gs : List GP) (hok : ∀ p ∈ gs, p.ok) : (gs.map (reflD L H)).all PD.ok = true := by
  rw [List.all_map]
  exact List.all_eq_true.2 fun p hp => reflD_ok hw (hok p hp)

set_option maxHeartbeats 4000000 in
set_option maxRecDepth 20000 in
theorem ReflectAll_ok (L H : Int) (hw : Walls L H) (B : Nat) (v : Value) (gs : List GP) (w : World) (h : w.ownsRow B 50 4 v gs.length (psCells (gs.map GP.pd))) (hok : ∀ p ∈ gs, p.ok) (hN : gs.length ≤ 6) :
    Calls Try.prog 18 #[v, .float .f32 (wd single 3 L), .float .f32 (wd single 3 H), .float .f32 1056964608] w fun e w' => ∃ (A : Option Addr) (c : Nat), e = .returned (.tuple #[.slice A gs.length c, .int .i64 (cntOut L H gs), .bool true]) ∧ w'.ownsRow w.heap.size 50 4 (.slice A gs.length c) gs.length (psCells (gs.map (reflD L H))) ∧ Below w.heap.size w w' := by
  have AP := keep (Areg_ok B v gs w h hok hN)
  have AW := keep (fun w => areWalls_ok L H hw w)
  have C := IsFinite32 1056964608
  rw [fin_half] at C
  have C := keep C
  have CL := keep (fun w (h : w.ownsRow B 50 4 v gs.length (psCells (gs.map GP.pd))) => Clone_ok B v (gs.map GP.pd) w (by rw [List.length_map]; exact h) (by rw [List.length_map]; omega))
  have RF := keep (fun p hp w => reflected_ok L H hw p hp w)
  have AQ := keep (fun B v w h => AreParticles_ok B v (gs.map (reflD L H)) w h (reflAll_ok hw gs hok) (by rw [List.length_map]; omega))
  simp only [List.length_map] at CL AQ
  have HH := keep h
  have HO := keep hok
  obtain ⟨A, c, rfl⟩ := own_slice h
  clear h hok hw
  go_enter Try.func18, Try.ntmps18
  go_wp2_with fail
  refine AP.out.mono ?_
  rintro e w1 ⟨rfl, hb⟩
  have B1 := keep hb
  clear hb
  go_wp2_with fail
  refine (AW.out _).mono ?_
  rintro e w2 ⟨rfl, hb⟩
  have B2 := keep (B1.out.trans (hb.mono B1.out.size))
  clear hb
  go_wp2_with fail
  refine (C.out _).mono ?_
  rintro e w3 ⟨rfl, m, rfl⟩
  have B3 := keep (Below.drewN_of B2.out m)
  have O3 := keep (owns_below HH.out B3.out)
  clear AP AW C B1 B2 HH
  go_wp2_with fail
  refine (CL.out _ O3.out).mono ?_
  rintro e w4 ⟨D, d, rfl, hown, hb⟩
  have OW := keep (own_base hown B3.out.size)
  have B4 := keep (B3.out.trans (hb.mono B3.out.size))
  clear hown hb O3 B3 CL
  go_wp2_with fail
  rcases OW.out.2 with ⟨he, hn⟩ | ⟨g, cap, cur, he, hB, hg, hnc, hcm, hcs, htake⟩
  · obtain rfl : gs = [] := List.eq_nil_of_length_eq_zero hn
    injection he with he1 he2 he3
    subst he1
    subst he3
    refine wp_loop_rounds 1 ?_
    rw [rounds_succ]
    go_wp2_with fail
    refine (AQ.out w.heap.size _ _ (World.ownsRow_nil _ _ _ _)).mono ?_
    rintro e w6 ⟨rfl, hb6⟩
    go_wp2_with fail
    go_ret3
    exact ⟨none, 0, rfl, World.ownsRow_nil _ _ _ _, B4.out.trans (hb6.mono B4.out.size)⟩
  · injection he with he1 he2 he3
    subst he1
    subst he3
    go_loopw [35, 12] (fun s t wr => ∃ (i n : Nat) (cur : Array Value), i ≤ gs.length ∧ n ≤ i ∧ s = .int .i64 i ∧ t = .int .i64 n ∧ Kept (n = cntOut L H (gs.take i)) ∧ Has wr g 50 cur ∧ Kept (cur.size = d * 4) ∧ Kept (cur.toList.take (i * 4) = psCells ((gs.take i).map (reflD L H))) ∧ Kept (∀ j, i * 4 ≤ j → j < gs.length * 4 → cur[j]? = (psCells (gs.map GP.pd))[j]?) ∧ Kept (Below w.heap.size w wr)) (fun s _ _ => gs.length - (intOf s).toNat)
    case atStart => exact ⟨0, 0, cur, Nat.zero_le _, Nat.le_refl _, rfl, rfl, keep rfl, hg, keep hcs, keep (by simp [psCells]), keep (fun j _ hj => by
      rw [← htake, List.getElem?_take_of_lt hj, Array.getElem?_toList]), B4⟩
    case round =>
      clear B4 OW hg htake hcs
      obtain ⟨i, n, cur2, hi, hn, rfl, rfl, hcn, hh, hsz, htk, hrest, hb⟩ := hrel
      by_cases hlt : i < gs.length
      · have hi' : i < (gs.map GP.pd).length := by rw [List.length_map]; exact hlt
        have h4 : ∀ j u, j < 4 → gs[i].pd.cells[j]? = some u → wr.cell? ⟨g, i * 4 + j, none⟩ = some u := fun j u hj hu => by
          rw [hh.cells, hrest.out (i * 4 + j) (by omega) (by omega), psCells_at _ i hi' j hj, List.getElem_map]
          exact hu
        have c0 : wr.cell? ⟨g, i * 4, none⟩ = some (.complex .f32 (wd single 3 gs[i].x) (wd single 3 gs[i].y)) := h4 0 _ (by omega) rfl
        have c1 : wr.cell? ⟨g, i * 4 + 1, none⟩ = some (.complex .f32 (wd single 3 gs[i].u) (wd single 3 gs[i].v)) := h4 1 _ (by omega) rfl
        have c2 : wr.cell? ⟨g, i * 4 + 2, none⟩ = some (.float .f32 (wd single 1 gs[i].q)) := h4 2 _ (by omega) rfl
        have c3 : wr.cell? ⟨g, i * 4 + 3, none⟩ = some (.float .f32 (wd single 2 gs[i].m)) := h4 3 _ (by omega) rfl
        have hct := keep (cntOut_take L H gs i hlt)
        have hmx := keep (mix_write cur2 gs (reflD L H) d i hlt (by omega) hsz.out htk.out)
        have RFi := keep (RF.out _ (HO.out _ (List.getElem_mem hlt)))
        have hgr := hh.in_heap
        have H0 := keep hh
        clear h4 hh
        generalize gs[i] = p at *
        unfold GP.agg at RFi
        go_wp2_with fail
        refine (RFi.out _).mono ?_
        rintro e w5 ⟨rfl, hb5⟩
        generalize reflD L H p = r at *
        unfold PD.agg
        have H5 := keep ((H0.out.beside (.cells #[.complex .f32 (wd single 3 p.x) (wd single 3 p.y), .complex .f32 (wd single 3 p.u) (wd single 3 p.v), .float .f32 (wd single 1 p.q), .float .f32 (wd single 2 p.m)] 50)).after hb5)
        have B5 := keep ((hb.out.alloc hb.out.size (.cells #[.complex .f32 (wd single 3 p.x) (wd single 3 p.y), .complex .f32 (wd single 3 p.u) (wd single 3 p.v), .float .f32 (wd single 1 p.q), .float .f32 (wd single 2 p.m)] 50)).trans (hb5.mono (by have := hb.out.size; simp; omega)))
        have h5 := H5.out
        have e0 := h5.cells
        have e1 := h5.free
        have zc : i * 4 + 3 < cur2.size := by have := hsz.out; omega
        have hcell : ∀ j, j < 4 → ∃ x, w5.cell? ⟨g, i * 4 + j, none⟩ = some x := fun j hj => by
          have hb : i * 4 + j < cur2.size := by omega
          exact ⟨cur2[i * 4 + j], (e0 _).trans (Array.getElem?_eq_getElem hb)⟩
        obtain ⟨x0, d0⟩ := hcell 0 (by omega)
        obtain ⟨x1, d1⟩ := hcell 1 (by omega)
        obtain ⟨x2, d2⟩ := hcell 2 (by omega)
        obtain ⟨x3, d3⟩ := hcell 3 (by omega)
        rw [Nat.add_zero] at d0
        have hg5 := h5.in_heap
        have H6 := keep (Has.beside ((((h5.written (i * 4) (.complex .f32 r.a r.b)).written (i * 4 + 1) (.complex .f32 r.c r.d)).written (i * 4 + 2) (.float .f32 r.q)).written (i * 4 + 3) (.float .f32 r.m)) (.cells #[.complex .f32 r.a r.b, .complex .f32 r.c r.d, .float .f32 r.q, .float .f32 r.m] 50))
        have hwg : w.heap.size ≤ g := hB
        have b6 := (((B5.out.setCell (p := ⟨g, i * 4, none⟩) hwg (.complex .f32 r.a r.b)).setCell (p := ⟨g, i * 4 + 1, none⟩) hwg (.complex .f32 r.c r.d)).setCell (p := ⟨g, i * 4 + 2, none⟩) hwg (.float .f32 r.q)).setCell (p := ⟨g, i * 4 + 3, none⟩) hwg (.float .f32 r.m)
        have B6 := keep (b6.alloc b6.size (.cells #[.complex .f32 r.a r.b, .complex .f32 r.c r.d, .float .f32 r.q, .float .f32 r.m] 50))
        clear b6
        have S6 := keep (show (((((cur2.setIfInBounds (i * 4) (.complex .f32 r.a r.b)).setIfInBounds (i * 4 + 1) (.complex .f32 r.c r.d)).setIfInBounds (i * 4 + 2) (.float .f32 r.q)).setIfInBounds (i * 4 + 3) (.float .f32 r.m)).size = d * 4) from by simp [hsz.out])
        have R6 := keep (show ∀ j, (i + 1) * 4 ≤ j → j < gs.length * 4 → ((((cur2.setIfInBounds (i * 4) (.complex .f32 r.a r.b)).setIfInBounds (i * 4 + 1) (.complex .f32 r.c r.d)).setIfInBounds (i * 4 + 2) (.float .f32 r.q)).setIfInBounds (i * 4 + 3) (.float .f32 r.m))[j]? = (psCells (gs.map GP.pd))[j]? from fun j h1 h2 => by
          rw [set4_far _ _ _ _ _ _ _ _ _ j (by omega) (by omega) (by omega) (by omega)]
          exact hrest.out j (by omega) h2)
        clear hcell h5 e0 H5 B5 H0 hrest htk hsz
        cases hob : isOut L H p
        · have hct2 := hct.out
          rw [hob] at hct2
          simp only [Bool.false_eq_true, if_false, Nat.add_zero] at hct2
          have HC2 := keep hct2
          clear hct hct2 hob
          go_wp2_with fail
          go_roundw
          case rel => exact ⟨i + 1, n, _, by omega, by omega, by go_num, rfl, keep (by rw [HC2.out]; exact hcn.out), H6.out, S6, hmx, R6, B6⟩
          case measure => simp [intOf]; omega
        · have hct2 := hct.out
          rw [hob] at hct2
          simp only [if_true] at hct2
          have HC2 := keep hct2
          clear hct hct2 hob
          go_wp2_with fail
          go_roundw
          case rel => exact ⟨i + 1, n + 1, _, by omega, by omega, by go_num, by go_num, keep (by rw [HC2.out, ← hcn.out]), H6.out, S6, hmx, R6, B6⟩
          case measure => simp [intOf]; omega
      · obtain rfl : i = gs.length := by omega
        have t0 := htk.out
        have k0 := hcn.out
        rw [List.take_length] at t0 k0
        have ow : wr.ownsRow w.heap.size 50 4 (.slice (some ⟨g, 0, none⟩) gs.length d) gs.length (psCells (gs.map (reflD L H))) := ⟨by rw [psCells_length, List.length_map], .inr ⟨g, d, cur2, rfl, hB, hh, hnc, hcm, hsz.out, t0⟩⟩
        have OW2 := keep ow
        subst k0
        clear ow t0 hh
        go_wp2_with fail
        refine (AQ.out _ _ _ OW2.out).mono ?_
        rintro e w6 ⟨rfl, hb6⟩
        go_wp2_with fail
        go_ret3
        exact ⟨_, _, rfl, owns_below OW2.out hb6, hb.out.trans (hb6.mono hb.out.size)⟩
end Go.Proofs.Ytmnpijhnfdiomaa
