/- Contract: merged clouds. -/
import Derived.Test.YtnmdgbnophclnaaPf
import Derived.Deep.RegionHeld
namespace Go.Proofs.Ytnmdgbnophclnaa
open Go.RowKit Go.Sort Ieee
set_option linter.unusedSimpArgs false

theorem cloud_both {W H m b : Nat} {ps1 ps2 : List QP} (h1 : CloudOk W H ps1 m b) (h2 : CloudOk W H ps2 m b) (hl : ps1.length + ps2.length ≤ 6) : CloudOk W H (ps1 ++ ps2) m b :=
  ⟨h1.sides, by rw [List.length_append]; exact hl, fun p hp => (List.mem_append.1 hp).elim (h1.parts p) (h2.parts p), h1.finm, h1.finb⟩

set_option maxHeartbeats 8000000 in
set_option maxRecDepth 20000 in
theorem MergeClouds_ok (W H : Nat) (ps1 ps2 : List QP) (m b : Nat) (hc1 : CloudOk W H ps1 m b) (hc2 : CloudOk W H ps2 m b) (hl : ps1.length + ps2.length ≤ 6) (B1 B2 : Nat) (v1 v2 : Value) (w : World) (h1 : RowQ w B1 v1 ps1) (h2 : RowQ w B2 v2 ps2) :
    Calls Try.prog 22 #[cloudV W H v1 m b, cloudV W H v2 m b] w fun e w' => ∃ v', e = .returned (.tuple #[cloudV W H v' m b, .bool true]) ∧ RowQ w' w.heap.size v' (ps1 ++ ps2) ∧ Below w.heap.size w w' := by
  have VA := keep (fun w h' => ValidCloud_ok W H ps1 m b hc1 B1 v1 w h')
  have VB := keep (fun w h' => ValidCloud_ok W H ps2 m b hc2 B2 v2 w h')
  have CO := keep (fun s w hs h1 h2 => Concat_ok ps1 ps2 hl B1 B2 v1 v2 s w hs h1 h2)
  have WI := keep (fun v' B' w h' => with_ok W H ps1 v1 m b (ps1 ++ ps2) (cloud_both hc1 hc2 hl) (by obtain ⟨A, c, e, _⟩ := qown_form h1; exact ⟨_, _, _, e⟩) B' v' w h')
  generalize ps1 ++ ps2 = ps3 at *
  have HW1 := keep h1
  have HW2 := keep h2
  obtain ⟨A1, c1, rfl, _⟩ := qown_form h1
  obtain ⟨A2, c2, rfl, _⟩ := qown_form h2
  clear h1 h2 hc1 hc2
  unfold cloudV at *
  have PP := ((Has.made w 29 #[.int .i64 W, .int .i64 H, .slice A1 ps1.length c1, .float .f32 m, .float .f32 b]).beside (.cells #[.int .i64 W, .int .i64 H, .slice A2 ps2.length c2, .float .f32 m, .float .f32 b] 29)).beside (.cells cloudZ 29)
  have XX := (Has.made (w.alloc (.cells #[.int .i64 W, .int .i64 H, .slice A1 ps1.length c1, .float .f32 m, .float .f32 b] 29)) 29 #[.int .i64 W, .int .i64 H, .slice A2 ps2.length c2, .float .f32 m, .float .f32 b]).beside (.cells cloudZ 29)
  have YY := Has.made ((w.alloc (.cells #[.int .i64 W, .int .i64 H, .slice A1 ps1.length c1, .float .f32 m, .float .f32 b] 29)).alloc (.cells #[.int .i64 W, .int .i64 H, .slice A2 ps2.length c2, .float .f32 m, .float .f32 b] 29)) 29 cloudZ
  have BB := (((Below.refl w.heap.size w).alloc (Nat.le_refl _) (.cells #[.int .i64 W, .int .i64 H, .slice A1 ps1.length c1, .float .f32 m, .float .f32 b] 29)).alloc (by simp only [World.size_alloc]; omega) (.cells #[.int .i64 W, .int .i64 H, .slice A2 ps2.length c2, .float .f32 m, .float .f32 b] 29)).alloc (by simp only [World.size_alloc]; omega) (.cells cloudZ 29)
  simp only [World.size_alloc] at XX YY
  have H1 := keep (owns_below HW1.out BB)
  have H2 := keep (owns_below HW2.out BB)
  have P := keep PP
  have X := keep XX
  have Z := keep YY
  have B0 := keep BB
  clear PP XX YY BB HW1 HW2
  unfold cloudZ at *
  go_enter Try.func22, Try.ntmps22
  have cg := P.out.cells
  have cx := X.out.cells
  go_wp2_with fail
  refine (VA.out _ H1.out).mono ?_
  rintro e w1 ⟨rfl, hb⟩
  have P1 := keep (P.out.after hb)
  have X1 := keep (X.out.after hb)
  have Z1 := keep (Z.out.after hb)
  clear cg cx
  have cg := P1.out.cells
  have cx := X1.out.cells
  have Q1 := keep (B0.out.trans (hb.mono B0.out.size))
  have H1 := keep (owns_below H1.out hb)
  have H2 := keep (owns_below H2.out hb)
  clear hb P X Z B0 VA
  go_wp2_with fail
  refine (VB.out _ H2.out).mono ?_
  rintro e w2 ⟨rfl, hb⟩
  have P2 := keep (P1.out.after hb)
  have X2 := keep (X1.out.after hb)
  have Z2 := keep (Z1.out.after hb)
  clear cg cx
  have cg := P2.out.cells
  have cx := X2.out.cells
  have Q2 := keep (Q1.out.trans (hb.mono Q1.out.size))
  have H1 := keep (owns_below H1.out hb)
  have H2 := keep (owns_below H2.out hb)
  have lP := P2.out.in_heap
  have lX := X2.out.in_heap
  have lZ := Z2.out.in_heap
  clear hb P1 X1 Z1 Q1 VB
  go_wp2_with fail
  have CC := keep (CO.out w2.heap.size (w2.alloc (.cells #[.slice A1 ps1.length c1, .slice A2 ps2.length c2] 26)).drew (show Has (w2.alloc (.cells #[.slice A1 ps1.length c1, .slice A2 ps2.length c2] 26)).drew w2.heap.size 26 #[.slice A1 ps1.length c1, .slice A2 ps2.length c2] from Has.made w2 26 #[.slice A1 ps1.length c1, .slice A2 ps2.length c2]) (owns_below (H1.out.alloc _) (Below.drew (Below.refl _ _))) (owns_below (H2.out.alloc _) (Below.drew (Below.refl _ _))))
  have SOF := keep (fun (wz : World) (hg : w2.grownBy wz (some (w.heap.size + 1 + 1))) => (⟨(World.cell?_of_block (a := ⟨w.heap.size, 0, none⟩) (hg.block (w.heap.size) lP (fun e => absurd (Option.some.inj e) (by omega)))).trans (P2.out.cells 0), (World.cell?_of_block (a := ⟨w.heap.size, 1, none⟩) (hg.block (w.heap.size) lP (fun e => absurd (Option.some.inj e) (by omega)))).trans (P2.out.cells 1), (World.cell?_of_block (a := ⟨w.heap.size, 2, none⟩) (hg.block (w.heap.size) lP (fun e => absurd (Option.some.inj e) (by omega)))).trans (P2.out.cells 2), (World.cell?_of_block (a := ⟨w.heap.size, 3, none⟩) (hg.block (w.heap.size) lP (fun e => absurd (Option.some.inj e) (by omega)))).trans (P2.out.cells 3), (World.cell?_of_block (a := ⟨w.heap.size, 4, none⟩) (hg.block (w.heap.size) lP (fun e => absurd (Option.some.inj e) (by omega)))).trans (P2.out.cells 4), (World.cell?_of_block (a := ⟨w.heap.size + 1, 2, none⟩) (hg.block (w.heap.size + 1) lX (fun e => absurd (Option.some.inj e) (by omega)))).trans (X2.out.cells 2), hg⟩ : wz.cell? ⟨w.heap.size, 0, none⟩ = some (.int .i64 W) ∧ wz.cell? ⟨w.heap.size, 1, none⟩ = some (.int .i64 H) ∧ wz.cell? ⟨w.heap.size, 2, none⟩ = some (.slice A1 ps1.length c1) ∧ wz.cell? ⟨w.heap.size, 3, none⟩ = some (.float .f32 m) ∧ wz.cell? ⟨w.heap.size, 4, none⟩ = some (.float .f32 b) ∧ wz.cell? ⟨w.heap.size + 1, 2, none⟩ = some (.slice A2 ps2.length c2) ∧ w2.grownBy wz (some (w.heap.size + 1 + 1))))
  have GOS := keep (fun (wz : World) (hS : wz.cell? ⟨w.heap.size, 0, none⟩ = some (.int .i64 W) ∧ wz.cell? ⟨w.heap.size, 1, none⟩ = some (.int .i64 H) ∧ wz.cell? ⟨w.heap.size, 2, none⟩ = some (.slice A1 ps1.length c1) ∧ wz.cell? ⟨w.heap.size, 3, none⟩ = some (.float .f32 m) ∧ wz.cell? ⟨w.heap.size, 4, none⟩ = some (.float .f32 b) ∧ wz.cell? ⟨w.heap.size + 1, 2, none⟩ = some (.slice A2 ps2.length c2) ∧ w2.grownBy wz (some (w.heap.size + 1 + 1))) => hS.2.2.2.2.2.2)
  clear cg cx CO
  go_region_held (fun wz => wz.cell? ⟨w.heap.size, 0, none⟩ = some (.int .i64 W) ∧ wz.cell? ⟨w.heap.size, 1, none⟩ = some (.int .i64 H) ∧ wz.cell? ⟨w.heap.size, 2, none⟩ = some (.slice A1 ps1.length c1) ∧ wz.cell? ⟨w.heap.size, 3, none⟩ = some (.float .f32 m) ∧ wz.cell? ⟨w.heap.size, 4, none⟩ = some (.float .f32 b) ∧ wz.cell? ⟨w.heap.size + 1, 2, none⟩ = some (.slice A2 ps2.length c2) ∧ w2.grownBy wz (some (w.heap.size + 1 + 1)))
    (first
      | (with_reducible refine SOF.out _ (gb_store ?_ _ _)
         with_reducible refine gb_store ?_ _ _
         with_reducible refine gb_store ?_ _ _
         with_reducible refine gb_store ?_ _ _
         with_reducible refine gb_store ?_ _ _
         refine GOS.out _ ?_
         with_reducible assumption)
      | (with_reducible exact SOF.out _ (gb_draw1 (World.grownBy.refl _ _)))
      | (with_reducible exact SOF.out _ (gb_draw1 (gb_alloc (World.grownBy.refl _ _) _)))
      | (with_reducible exact SOF.out _ (gb_alloc (gb_draw1 (World.grownBy.refl _ _)) _))
      | (exact SOF.out _ (gb_below (GOS.out _ (by assumption)) (by assumption) (GOS.out _ (by assumption)).size)))
    (first
      | ((with_reducible refine CC.out.mono ?_)
         rintro e w3 ⟨v3, rfl, hr3, hb3⟩
         obtain ⟨A3, c3, rfl⟩ := own_slice hr3
         have BA := Below.drew ((Below.refl w2.heap.size w2).alloc (Nat.le_refl _) (.cells #[.slice A1 ps1.length c1, .slice A2 ps2.length c2] 26))
         have BW := BA.trans (hb3.mono BA.size)
         have Z3 := keep (Z2.out.after BW)
         have B3 := keep (Q2.out.trans (BW.mono Q2.out.size))
         have R3 := keep (own_base hr3 BA.size)
         have cz3 := Z3.out.cells
         clear hr3 BA BW)
      | ((with_reducible refine (WI.out _ _ _ R3.out).mono ?_)
         rintro e w4 ⟨rfl, hb4⟩
         have Z4 := keep (Z3.out.after hb4)
         have B4 := keep (B3.out.trans (hb4.mono B3.out.size))
         have R4 := keep (owns_below R3.out hb4)
         have cz4 := Z4.out.cells
         have uz4 := Z4.out.free))
  all_goals (
    have qc := setCloud_cells Z4.out W H (.slice A3 ps3.length c3) m b
    have l3 := Q2.out.size
    have R5 := keep (own_base (setCloud_own R4.out (show w.heap.size + 1 + 1 < w2.heap.size by omega) W H (.slice A3 ps3.length c3) m b) (show w.heap.size ≤ w2.heap.size by omega))
    have B5 := keep (setCloud_below B4.out (show w.heap.size ≤ w.heap.size + 1 + 1 by omega) W H (.slice A3 ps3.length c3) m b)
    unfold setCloud at R5 B5
    clear cz3 cz4 uz4 SOF GOS
    go_wp2_with fail
    exact bodyPost_ret (v := .tuple #[.agg #[.int .i64 W, .int .i64 H, .slice A3 ps3.length c3, .float .f32 m, .float .f32 b], .bool true]) (by simp [results, Try.results22, go_sem, qc]) rfl ⟨.slice A3 ps3.length c3, rfl, R5.out, B5.out⟩)
end Go.Proofs.Ytnmdgbnophclnaa
