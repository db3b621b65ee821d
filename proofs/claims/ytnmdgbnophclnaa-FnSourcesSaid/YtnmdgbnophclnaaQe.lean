/- Contract: speeds halved. -/
import Derived.Test.YtnmdgbnophclnaaQd
namespace Go.Proofs.Ytnmdgbnophclnaa
open Go.RowKit Go.Sort Ieee
set_option linter.unusedSimpArgs false

def hf (z : Nat) : Nat := (floatBits .mul .f32 z 1056964608).getD 0
def hfChk (u : Int) : Bool := (floatBits .mul .f32 (wd single 3 u) 1056964608 == some (hf (wd single 3 u))) && decide (hf (wd single 3 u) < 4294967296) && fin .f32 (hf (wd single 3 u)) && (FloatKind.f32.format.order (hf (wd single 3 u)) (hf (wd single 3 u)) == some .eq)
theorem hfChk_all : ∀ n : Fin 17, hfChk ((n.val : Int) - 8) = true := by decide +kernel
theorem hf_of (u : Int) (h0 : -8 ≤ u) (h1 : u ≤ 8) : floatBits .mul .f32 (wd single 3 u) 1056964608 = some (hf (wd single 3 u)) ∧ hf (wd single 3 u) < 4294967296 ∧ fin .f32 (hf (wd single 3 u)) = true ∧ FloatKind.f32.format.order (hf (wd single 3 u)) (hf (wd single 3 u)) = some .eq := by
  have h := hfChk_all ⟨(u + 8).toNat, by omega⟩
  rw [show (((⟨(u + 8).toNat, by omega⟩ : Fin 17).val : Int) - 8) = u by show ((u + 8).toNat : Int) - 8 = u; omega] at h
  unfold hfChk at h
  simp only [Bool.and_eq_true, decide_eq_true_eq, beq_iff_eq] at h
  exact ⟨h.1.1.1, h.1.1.2, h.1.2, h.2⟩
def PD.drag (p : PD) : PD := ⟨p.a, p.b, hf p.c, hf p.d, p.q, p.m⟩
theorem drag_ok {p : GP} (h : p.ok) : p.pd.drag.ok = true := by
  obtain ⟨h1, h2, ⟨u0, u1⟩, ⟨v0, v1⟩, h5, h6⟩ := h
  unfold PD.ok validP finC PD.drag GP.pd
  simp only
  rw [fin_wd 3 p.x (by omega) (by omega), fin_wd 3 p.y (by omega) (by omega), (hf_of p.u u0 u1).2.2.1, (hf_of p.v v0 v1).2.2.1, fin_wd 1 p.q (by omega) (by omega), fin_wd 2 p.m (by omega) (by omega), gtr_mass p.m (by omega) (by omega)]
  rfl
theorem drag_all {gs : List GP} (h : ∀ p ∈ gs, p.ok) : ((gs.map GP.pd).map PD.drag).all PD.ok = true := by
  rw [List.map_map, List.all_map]
  exact List.all_eq_true.2 fun p hp => drag_ok (h p hp)

set_option maxHeartbeats 4000000 in
set_option maxRecDepth 20000 in
theorem DragSpeeds_ok (B : Nat) (v : Value) (gs : List GP) (w : World) (h : w.ownsRow B 52 4 v gs.length (psCells (gs.map GP.pd))) (hok : ∀ p ∈ gs, p.ok) (hN : gs.length ≤ 6) :
    Calls Try.prog 35 #[v, .float .f32 1056964608] w fun e w' => ∃ (A : Option Addr) (c : Nat), e = .returned (.tuple #[.slice A gs.length c, .bool true]) ∧ w'.ownsRow w.heap.size 52 4 (.slice A gs.length c) gs.length (psCells ((gs.map GP.pd).map PD.drag)) ∧ Below w.heap.size w w' := by
  have AP := keep (Areg_ok B v gs w h hok hN)
  have AQ := keep (fun B v w h => AreParticles_ok B v ((gs.map GP.pd).map PD.drag) w h (drag_all hok) (by rw [List.length_map, List.length_map]; omega))
  simp only [List.length_map] at AQ
  have C := IsFinite32 1056964608
  rw [fin_half] at C
  have C := keep C
  have CL := keep (fun w (h : w.ownsRow B 52 4 v gs.length (psCells (gs.map GP.pd))) => Clone_ok B v (gs.map GP.pd) w (by rw [List.length_map]; exact h) (by rw [List.length_map]; omega))
  simp only [List.length_map] at CL
  have HH := keep h
  have HO := keep hok
  obtain ⟨A, c, rfl⟩ := own_slice h
  clear h hok
  go_enter Try.func35, Try.ntmps35
  go_wp2_with fail
  refine AP.out.mono ?_
  rintro e w1 ⟨rfl, hb⟩
  have B1 := keep hb
  have O1 := keep (owns_below HH.out hb)
  clear hb AP HH
  go_wp2_with fail
  refine (C.out _).mono ?_
  rintro e w3 ⟨rfl, m, rfl⟩
  have B3 := keep (Below.drewN_of B1.out m)
  have O3 := keep (owns_below O1.out (Below.drewN w1.heap.size w1 m))
  clear C B1 O1
  go_wp2_with fail
  refine (CL.out _ O3.out).mono ?_
  rintro e w4 ⟨D, d, rfl, hown, hb⟩
  have OW := keep (own_base hown B3.out.size)
  have B4 := keep (B3.out.trans (hb.mono B3.out.size))
  clear hown hb O3 B3 CL
  go_wp2_with fail
  rcases OW.out.2 with ⟨he, hn⟩ | ⟨g, cap, cur, he, hB, hg, hnc, hcm, hcs, htake⟩
  · obtain rfl : gs = [] := List.eq_nil_of_length_eq_zero hn
    injection he with he1 he2 he3
    subst he1
    subst he3
    refine wp_loop_rounds 1 ?_
    rw [rounds_succ]
    go_wp2_with fail
    refine (AQ.out w.heap.size _ _ (World.ownsRow_nil _ _ _ _)).mono ?_
    rintro e w6 ⟨rfl, hb6⟩
    go_wp2_with fail
    go_ret2
    exact ⟨none, 0, rfl, World.ownsRow_nil _ _ _ _, B4.out.trans (hb6.mono B4.out.size)⟩
  · injection he with he1 he2 he3
    subst he1
    subst he3
    have hL : (gs.map GP.pd).length = gs.length := List.length_map _
    go_loopw [21] (fun s wr => ∃ (i : Nat) (cur : Array Value), i ≤ gs.length ∧ s = .int .i64 i ∧ Has wr g 52 cur ∧ Kept (cur.size = d * 4) ∧ Kept (Mixed PD.drag (gs.map GP.pd) i cur) ∧ Kept (Below w.heap.size w wr)) (fun s _ => gs.length - (intOf s).toNat)
    case atStart => exact ⟨0, cur, Nat.zero_le _, rfl, hg, keep hcs, keep (Mixed.start (by rw [hL]; exact htake)), B4⟩
    case round =>
      clear B4 OW hg htake hcs
      obtain ⟨i, cur2, hi, rfl, hh, hsz, hmix, hb⟩ := hrel
      by_cases hlt : i < gs.length
      · have hi' : i < (gs.map GP.pd).length := by rw [hL]; exact hlt
        have h4 : ∀ j u, j < 4 → gs[i].pd.cells[j]? = some u → wr.cell? ⟨g, i * 4 + j, none⟩ = some u := fun j u hj hu => by
          rw [hh.cells, hmix.out i hi' j hj, if_neg (by omega), List.getElem_map]
          exact hu
        have c0 : wr.cell? ⟨g, i * 4, none⟩ = some (.complex .f32 (wd single 3 gs[i].x) (wd single 3 gs[i].y)) := h4 0 _ (by omega) rfl
        have c1 : wr.cell? ⟨g, i * 4 + 1, none⟩ = some (.complex .f32 (wd single 3 gs[i].u) (wd single 3 gs[i].v)) := h4 1 _ (by omega) rfl
        have c2 : wr.cell? ⟨g, i * 4 + 2, none⟩ = some (.float .f32 (wd single 1 gs[i].q)) := h4 2 _ (by omega) rfl
        have c3 : wr.cell? ⟨g, i * 4 + 3, none⟩ = some (.float .f32 (wd single 2 gs[i].m)) := h4 3 _ (by omega) rfl
        have zc : i * 4 + 1 < cur2.size := by have := hsz.out; omega
        have M2 := keep (hmix.out.step hi' 1 (.complex .f32 (hf (wd single 3 gs[i].u)) (hf (wd single 3 gs[i].v))) (by omega) zc (by rw [List.getElem_map]; rfl) (fun j hj hne => by
          have : j = 0 ∨ j = 2 ∨ j = 3 := by omega
          rcases this with rfl | rfl | rfl <;> rfl))
        obtain ⟨_, _, ⟨u0, u1⟩, ⟨v0, v1⟩, _, _⟩ := HO.out _ (List.getElem_mem hlt)
        have SC := keep (fun w => ScaleComplex_any _ _ _ _ _ (hf_of gs[i].u u0 u1).1 (hf_of gs[i].v v0 v1).1 w)
        have u1 := hh.free (i * 4 + 1)
        have hgr := hh.in_heap
        have hwg : w.heap.size ≤ g := hB
        have H6 := keep (fun cs => Has.beside (hh.written (i * 4 + 1) (.complex .f32 (hf (wd single 3 gs[i].u)) (hf (wd single 3 gs[i].v)))) (.cells cs 52))
        have B6 := keep (fun cs => (hb.out.setCell (p := ⟨g, i * 4 + 1, none⟩) hwg (.complex .f32 (hf (wd single 3 gs[i].u)) (hf (wd single 3 gs[i].v)))).alloc (hb.out.setCell (p := ⟨g, i * 4 + 1, none⟩) hwg (.complex .f32 (hf (wd single 3 gs[i].u)) (hf (wd single 3 gs[i].v)))).size (.cells cs 52))
        have S6 := keep (show (cur2.setIfInBounds (i * 4 + 1) (.complex .f32 (hf (wd single 3 gs[i].u)) (hf (wd single 3 gs[i].v)))).size = d * 4 from by simp [hsz.out])
        clear h4 hh hmix hb hsz u0 v0 v1
        generalize gs[i] = p at *
        generalize hf (wd single 3 p.u) = nc at *
        generalize hf (wd single 3 p.v) = nd at *
        go_wp2_with fail
        refine (SC.out _).mono ?_
        rintro e w6 ⟨rfl, rfl⟩
        go_wp2_with fail
        go_roundw
        case rel => exact ⟨i + 1, _, by omega, by go_num, H6.out _, S6, M2, keep (B6.out _)⟩
        case measure => simp [intOf]; omega
      · obtain rfl : i = gs.length := by omega
        have m0 := hmix.out
        rw [← hL] at m0
        have t0 := m0.done (by have := hsz.out; omega)
        rw [hL] at t0
        have ow : wr.ownsRow w.heap.size 52 4 (.slice (some ⟨g, 0, none⟩) gs.length d) gs.length (psCells ((gs.map GP.pd).map PD.drag)) := ⟨by rw [psCells_length, List.length_map, List.length_map], .inr ⟨g, d, cur2, rfl, hB, hh, hnc, hcm, hsz.out, t0⟩⟩
        have OW2 := keep ow
        clear ow t0 m0 hh
        go_wp2_with fail
        refine (AQ.out _ _ _ OW2.out).mono ?_
        rintro e w6 ⟨rfl, hb6⟩
        have B6 := keep (hb.out.trans (hb6.mono hb.out.size))
        have OW6 := keep (owns_below OW2.out hb6)
        clear hb6
        go_wp2_with fail
        go_ret2
        exact ⟨_, _, rfl, OW6.out, B6.out⟩
end Go.Proofs.Ytnmdgbnophclnaa
