/- Contract: a cloud permuted. -/
import Derived.Test.YtnmdgbnophclnaaOi
namespace Go.Proofs.Ytnmdgbnophclnaa
open Go.RowKit Go.Sort Ieee
set_option linter.unusedSimpArgs false
set_option linter.unusedVariables false

theorem SortedI_n (n Bs b cap : Nat) (zs : List Nat) (e : zs.length = n) (hN : n ≤ 12) (hp : zs.Perm (List.range n)) (w : World) (hBs : Bs < w.heap.size) (hb : b < w.heap.size)
    (hc : w.cell? ⟨Bs, 0, none⟩ = some (.slice (some ⟨b, 0, none⟩) n cap)) (hI : ∀ j (h : j < zs.length), w.cell? ⟨b, j, none⟩ = some (.int .i64 (zs[j] : Int))) :
    Calls Try.prog 52 #[.func (.func 96) #[] #[.pointer (some ⟨Bs, 0, none⟩)]] w fun e W' => ∃ v, e = .returned v ∧ W'.ownsRow w.heap.size 2 1 v n (nList (List.range n)) ∧ Below w.heap.size w W' := by
  subst e
  exact SortedI_ok Bs b cap zs hN hp w hBs hb hc hI

set_option maxHeartbeats 4000000 in
set_option maxRecDepth 20000 in
theorem PermuteCloud_ok (W H : Nat) (ps : List QP) (m b : Nat) (h : CloudOk W H ps m b) (B : Nat) (v : Value) (os : List Nat) (hp : os.Perm (List.range ps.length)) (g c0 : Nat) (w : World) (hown : RowQ w B v ps) (hg : g < w.heap.size) (hc : ∀ i (h : i < os.length), w.cell? ⟨g, i, none⟩ = some (.int .i64 (os[i] : Int))) :
    Calls Try.prog 13 #[cloudV W H v m b, .slice (some ⟨g, 0, none⟩) ps.length c0] w fun e w' => ∃ v', e = .returned (.tuple #[cloudV W H v' m b, .bool true]) ∧ RowQ w' w.heap.size v' (pickQ ps os) ∧ Below w.heap.size w w' := by
  have OL : os.length = ps.length := by have := hp.length_eq; rwa [List.length_range] at this
  have OI : ∀ x ∈ os, x < ps.length := fun x hx => List.mem_range.1 (hp.mem_iff.1 hx)
  have hl := h.len
  have VC := keep (fun w h' => ValidCloud_ok W H ps m b h B v w h')
  have CH := keep (fun w h' hg hc => chosen_n W H ps m b os ps.length OL hl OI B v g c0 w h' hg hc)
  have WI := keep (fun v' B' w h' => with_ok W H ps v m b (pickQ ps os) (cloud_pick h (by omega) OI) (by obtain ⟨A, c, e, _⟩ := qown_form hown; exact ⟨_, _, _, e⟩) B' v' w h')
  have SL := keep (show (pickQ ps os).length = ps.length by rw [pickQ_length, OL])
  have VA := keep (fun w => Values_ok (some ⟨g, 0, none⟩) ps.length c0 w)
  have SO := keep (fun Bs w h1 h2 h3 h4 => SortedI_n ps.length Bs g c0 os OL (by omega) hp w h1 h2 h3 h4)
  have HW := keep hown
  have HC := keep hc
  obtain ⟨A, c, rfl, _⟩ := qown_form hown
  clear hown h OI hp hc
  unfold cloudV at *
  have PP := (Has.made w 29 #[.int .i64 W, .int .i64 H, .slice A ps.length c, .float .f32 m, .float .f32 b]).beside (.cells cloudZ 29)
  have ZZ := Has.made (w.alloc (.cells #[.int .i64 W, .int .i64 H, .slice A ps.length c, .float .f32 m, .float .f32 b] 29)) 29 cloudZ
  have BB := ((Below.refl w.heap.size w).alloc (Nat.le_refl _) (.cells #[.int .i64 W, .int .i64 H, .slice A ps.length c, .float .f32 m, .float .f32 b] 29)).alloc (by simp only [World.size_alloc]; omega) (.cells cloudZ 29)
  rw [World.size_alloc] at ZZ
  have H0 := keep (owns_below HW.out BB)
  have P := keep PP
  have Z := keep ZZ
  have B0 := keep BB
  clear PP ZZ BB HW
  unfold cloudZ at *
  go_enter Try.func13, Try.ntmps13
  go_wp2_with fail
  refine (VC.out _ H0.out).mono ?_
  rintro e w1 ⟨rfl, hb⟩
  have p1 := P.out.after hb
  have z1 := Z.out.after hb
  have P1 := keep p1
  have Z1 := keep z1
  have cg := p1.cells
  have B1 := keep (B0.out.trans (hb.mono B0.out.size))
  have H1 := keep (owns_below H0.out hb)
  clear hb P B0 Z VC H0 p1 z1
  go_wp2_with fail
  refine (VA.out _).mono ?_
  rintro e w2 ⟨rfl, rfl⟩
  have hb2 := (Below.refl w1.heap.size w1).alloc (Nat.le_refl _) (.cells #[.slice (some ⟨g, 0, none⟩) ps.length c0] 31)
  have V2 := keep (Has.made w1 31 #[.slice (some ⟨g, 0, none⟩) ps.length c0])
  have P2 := keep (P1.out.after hb2)
  have Z2 := keep (Z1.out.after hb2)
  have B2 := keep (B1.out.trans (hb2.mono B1.out.size))
  have H2 := keep (owns_below H1.out hb2)
  have hgs : g < w1.heap.size := Nat.lt_of_lt_of_le hg B1.out.size
  have SS := keep (SO.out w1.heap.size _ V2.out.in_heap (Nat.lt_of_lt_of_le hgs hb2.size) (V2.out.cells 0) (fun j hj => ((B2.out).cell (p := ⟨g, j, none⟩) hg).trans (HC.out j hj)))
  clear hb2 cg VA SO P1 Z1 H1
  go_wp2_with fail
  refine SS.out.mono ?_
  rintro e w3 ⟨v3, rfl, hr3, hb3⟩
  have P3 := keep (P2.out.after hb3)
  have Z3 := keep (Z2.out.after hb3)
  have B3 := keep (B2.out.trans (hb3.mono B2.out.size))
  have H3 := keep (owns_below H2.out hb3)
  have R3 := keep hr3
  have HC3 := keep (fun i (h : i < os.length) => (B3.out.cell (p := ⟨g, i, none⟩) hg).trans (HC.out i h))
  have hg3 : g < w3.heap.size := Nat.lt_of_lt_of_le hg B3.out.size
  obtain ⟨A3, c3, rfl⟩ := own_slice hr3
  clear hr3 hb3 SS P2 Z2 B2 H2 V2 B1 HC hgs
  go_wp2_with fail
  go_loopw [24] (fun s wr => ∃ i : Nat, i ≤ ps.length ∧ s = .int .i64 i ∧ wr = w3) (fun s _ => ps.length - (intOf s).toNat)
  case atStart => exact ⟨0, Nat.zero_le _, rfl, rfl⟩
  case round =>
    obtain ⟨i, hi, rfl, rfl⟩ := hrel
    by_cases hlt : i < ps.length
    · obtain ⟨g5, c5, e5, _, _⟩ := R3.out.form (by omega)
      injection e5 with e6 e7 e8
      subst e6
      have ci := (R3.out.cellAt i (by omega)).trans (show (nList (List.range ps.length))[i]? = some (.int .i64 (i : Int)) by
        unfold nList
        rw [List.getElem?_map, List.getElem?_range hlt]; rfl)
      go_wp2_with fail
      go_roundw
      case rel => exact ⟨i + 1, by omega, by go_num, by trivial⟩
      case measure => simp [intOf]; omega
    · obtain rfl : i = ps.length := by omega
      have cg := P3.out.cells
      have cz := Z3.out.cells
      have uz := Z3.out.free
      have lP := P3.out.in_heap
      have lZ := Z3.out.in_heap
      go_wp2_with fail
      go_region_law (first
        | (go_simp
           go_at_call 49
           refine (CH.out _ (owns_below H3.out (Below.drew (Below.refl _ _))) hg3 (fun i hi => HC3.out i hi)).mono ?_
           rintro e w4 ⟨v4, rfl, hr4, hb4⟩
           obtain ⟨A4, c4, rfl⟩ := own_slice hr4
           unfold RowQ at hr4
           rw [SL.out] at hr4 ⊢
           have P4 := keep (Has.after (w := wr.drew) P3.out hb4)
           have Z4 := keep (Has.after (w := wr.drew) Z3.out hb4)
           have B4 := keep ((Below.drew B3.out).trans (hb4.mono (Below.drew B3.out).size))
           have R4 := keep hr4
           have cg4 := P4.out.cells
           clear hr4 hb4)
        | (go_simp
           go_at_call 48
           refine (WI.out _ _ _ (by unfold RowQ; rw [SL.out]; exact R4.out)).mono ?_
           rintro e w5 ⟨rfl, hb5⟩
           have Z5 := keep (Z4.out.after hb5)
           have B5 := keep (B4.out.trans (hb5.mono B4.out.size))
           have R5 := keep (owns_below R4.out hb5)
           have cz5 := Z5.out.cells
           have uz5 := Z5.out.free
           clear hb5))
      all_goals (
        have qc := setCloud_cells Z5.out W H (.slice A4 ps.length c4) m b
        have l3 := B3.out.size
        have R6 := keep (own_base (setCloud_own R5.out (show w.heap.size + 1 < wr.heap.size + 1 by omega) W H (.slice A4 ps.length c4) m b) (show w.heap.size ≤ wr.heap.size + 1 by omega))
        have B6 := keep (setCloud_below B5.out (show w.heap.size ≤ w.heap.size + 1 by omega) W H (.slice A4 ps.length c4) m b)
        unfold setCloud at R6 B6
        clear cg cz uz cg4 cz5 uz5
        go_wp2_with fail
        exact bodyPost_ret (v := .tuple #[.agg #[.int .i64 W, .int .i64 H, .slice A4 ps.length c4, .float .f32 m, .float .f32 b], .bool true]) (by simp [results, Try.results13, go_sem, qc]) rfl ⟨.slice A4 ps.length c4, rfl, by unfold RowQ; rw [SL.out]; exact R6.out, B6.out⟩)
end Go.Proofs.Ytnmdgbnophclnaa
