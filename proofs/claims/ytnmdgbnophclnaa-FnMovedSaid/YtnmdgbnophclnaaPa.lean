/- A charge in quarters that is left at the corners around a place. -/
import Derived.Test.YtnmdgbnophclnaaKa
namespace Go.Proofs.Ytnmdgbnophclnaa
open Go.RowKit Go.Sort Ieee
set_option linter.unusedSimpArgs false

/-- A product of a charge and a share, added to a number. -/
theorem charge_stepQ (F q s : Int) (hF : F.natAbs ≤ 1000000) (hq : q.natAbs ≤ 4) (hs : s.natAbs ≤ 64) : ∃ r, floatBits .mul .f32 (wd single 2 q) (wd single 6 s) = some r ∧ floatBits .add .f32 (wd single 8 F) r = some (wd single 8 (F + q * s)) := by
  have hb : (q * s).natAbs ≤ 256 := by
    rw [Int.natAbs_mul]
    exact Nat.mul_le_mul (m₂ := 64) hq hs
  obtain ⟨r, e, hr, hl⟩ := mul_is (f := single) fit_single binade_le_single (k := 2) (l := 6) (a := q) (b := s) (by decide) (by decide) (by decide) (by show q.natAbs < 16777216; omega) (by show s.natAbs < 16777216; omega) (by show (q * s).natAbs < 16777216; omega)
  exact ⟨r, e, add_is (f := single) fit_single binade_le_single hr hl (by decide) (by show F.natAbs < 16777216; omega) (by show (q * s).natAbs < 16777216; omega) (by show (F + q * s).natAbs < 16777216; omega)⟩

theorem dep_factQ (q : Int) (hq : q.natAbs ≤ 4) (cur : List Int) (c : Nat) (s : Int) (M : Nat) (hs : s.natAbs ≤ 64) (hM : Small cur M) (hM2 : M ≤ 1000000) (hc : c < cur.length) :
    ∃ (F : Int) (r : Nat), (fCells 8 cur)[c]? = some (.float .f32 (wd single 8 F)) ∧ floatBits .mul .f32 (wd single 2 q) (wd single 6 s) = some r ∧ floatBits .add .f32 (wd single 8 F) r = some (wd single 8 (F + q * s)) ∧ (fCells 8 cur).setIfInBounds c (.float .f32 (wd single 8 (F + q * s))) = fCells 8 (addAt cur c (q * s)) := by
  have FA := hM.at c
  obtain ⟨r, e1, e2⟩ := charge_stepQ (cur.getD c 0) q s (by omega) hq hs
  refine ⟨cur.getD c 0, r, ?_, e1, e2, ?_⟩
  · rw [fCells_at 8 cur c hc, List.getD_eq_getElem?_getD, List.getElem?_eq_getElem hc]; rfl
  · rw [fCells_set]; rfl

set_option maxHeartbeats 4000000 in
set_option maxRecDepth 20000 in
theorem depositQ_ok (W H : Nat) (h : Sides W H) (x y : Int) (hp : PlaceOk x y) (q : Int) (hq : q.natAbs ≤ 4) (g : Nat) (fs : List Int) (hl : fs.length = W * H) (M : Nat) (hM : Small fs M) (hM2 : M ≤ 900000) (w : World) (hh : Has w g 27 (fCells 8 fs)) :
    Calls Try.prog 126 #[gridV W H, .slice (some ⟨g, 0, none⟩) fs.length fs.length, placeV x y, .float .f32 (wd single 2 q)] w fun e w' => e = .returned (.tuple #[]) ∧ Has w' g 27 (fCells 8 (depF q (cornersL W H x y) fs)) ∧ w.grownBy w' (some g) := by
  have SH := keep (fun w => shares_ok W H h x y hp w)
  have CS := cornersL_share W H x y
  unfold cornersV sharesV at SH
  unfold cornersL at *
  obtain ⟨c0, e0, l0⟩ := idx_nat W H h (md x W / 8) (md y H / 8)
  obtain ⟨c1, e1, l1⟩ := idx_nat W H h (md x W / 8 + 1) (md y H / 8)
  obtain ⟨c2, e2, l2⟩ := idx_nat W H h (md x W / 8) (md y H / 8 + 1)
  obtain ⟨c3, e3, l3⟩ := idx_nat W H h (md x W / 8 + 1) (md y H / 8 + 1)
  simp only [e0, e1, e2, e3, Int.toNat_natCast] at SH CS ⊢
  generalize (8 - frac x W) * (8 - frac y H) = s0 at *
  generalize frac x W * (8 - frac y H) = s1 at *
  generalize (8 - frac x W) * frac y H = s2 at *
  generalize frac x W * frac y H = s3 at *
  rw [← hl] at l0 l1 l2 l3
  have lg := hh.in_heap
  have HH := keep hh
  have G0 := keep (gb_alloc (World.grownBy.refl w (some g)) (.cells #[.int .i64 W, .int .i64 H] 25))
  have H0 := keep (hh.beside (.cells #[.int .i64 W, .int .i64 H] 25))
  have SM := keep (fun i => Small.dep hq ([(c0, s0), (c1, s1), (c2, s2), (c3, s3)].take i) (fun c hc => (CS c (List.mem_of_mem_take hc)).2) hM)
  have CH := keep (fun cur c s M => dep_factQ q hq cur c s M)
  clear hp h e0 e1 e2 e3 hh hl hM hq
  unfold gridV placeV at *
  go_enter Try.func126, Try.ntmps126
  go_wp2_with fail
  refine (SH.out _).mono ?_
  rintro e w1 ⟨rfl, hb⟩
  have G1 := keep (gb_below G0.out hb (by simp))
  have H1 := keep (H0.out.after hb)
  clear hb G0 H0 SH HH
  go_wp2_with fail
  have P5 := keep ((Has.made (w1.alloc (.cells #[.int .i64 c0, .int .i64 c1, .int .i64 c2, .int .i64 c3] 174)) 175 #[.float .f32 (wd single 6 s0), .float .f32 (wd single 6 s1), .float .f32 (wd single 6 s2), .float .f32 (wd single 6 s3)]))
  have G2 := keep (gb_alloc (gb_alloc G1.out (.cells #[.int .i64 c0, .int .i64 c1, .int .i64 c2, .int .i64 c3] 174)) (.cells #[.float .f32 (wd single 6 s0), .float .f32 (wd single 6 s1), .float .f32 (wd single 6 s2), .float .f32 (wd single 6 s3)] 175))
  have H2 := keep ((H1.out.beside (.cells #[.int .i64 c0, .int .i64 c1, .int .i64 c2, .int .i64 c3] 174)).beside (.cells #[.float .f32 (wd single 6 s0), .float .f32 (wd single 6 s1), .float .f32 (wd single 6 s2), .float .f32 (wd single 6 s3)] 175))
  have l1g := H1.out.in_heap
  simp only [World.size_alloc] at P5
  clear G1 H1
  go_loopw [19] (fun s wr => ∃ k : Nat, k ≤ 4 ∧ s = .int .i64 k ∧ Kept (Has wr g 27 (fCells 8 (depF q ([(c0, s0), (c1, s1), (c2, s2), (c3, s3)].take k) fs))) ∧ Kept (Has wr (w1.heap.size + 1) 175 #[.float .f32 (wd single 6 s0), .float .f32 (wd single 6 s1), .float .f32 (wd single 6 s2), .float .f32 (wd single 6 s3)]) ∧ Kept (w.grownBy wr (some g))) (fun s _ => 4 - (intOf s).toNat)
  case atStart => exact ⟨0, by omega, rfl, H2, P5, G2⟩
  case round =>
    clear P5 G2 H2
    obtain ⟨k, hk, rfl, hg, h5, hgr⟩ := hrel
    have hks : k = 0 ∨ k = 1 ∨ k = 2 ∨ k = 3 ∨ k = 4 := by omega
    rcases hks with rfl | rfl | rfl | rfl | rfl
    · have ht := keep (depF_take q [(c0, s0), (c1, s1), (c2, s2), (c3, s3)] fs 0 (by simp))
      have hln : (depF q ([(c0, s0), (c1, s1), (c2, s2), (c3, s3)].take 0) fs).length = fs.length := depF_length _ _ _
      obtain ⟨F, r, z1, e1, e2, z4⟩ := CH.out (depF q ([(c0, s0), (c1, s1), (c2, s2), (c3, s3)].take 0) fs) c0 s0 _ (CS (c0, s0) (by simp)).2 (SM.out 0) (by simp; omega) (by omega)
      generalize depF q ([(c0, s0), (c1, s1), (c2, s2), (c3, s3)].take 0) fs = cur at *
      have z1 := (hg.out.cells c0).trans z1
      have z2 := hg.out.free c0
      have z3 := h5.out.cells 0
      have f1 := frun e1
      have f2 := frun e2
      have Z4 := keep z4
      have lg2 := hg.out.in_heap
      have l52 := h5.out.in_heap
      have ix : ∀ w, (Instr.index 174 (.agg #[.int .i64 c0, .int .i64 c1, .int .i64 c2, .int .i64 c3]) (.int .i64 0)).run Try.prog w = .ok (.int .i64 c0) w := fun w => run_ix _ 0 _ (by omega) rfl w
      clear e1 e2 z4 CS SM CH hln
      go_wp2_with fail
      clear ix
      go_region
      go_wp2_with fail
      go_roundw
      case rel => exact ⟨1, by omega, rfl, keep (by
        rw [ht.out]
        show Has _ g 27 (fCells 8 (addAt cur c0 (q * s0)))
        rw [← Z4.out]
        exact (hg.out.written c0 _).draws _), keep ((h5.out.elsewhere (p := ⟨g, c0, none⟩) (by show w1.heap.size + 1 ≠ g; omega) _).draws _), keep (gb_below (gb_trans hgr.out (gb_row' _ g c0 _)) (Below.drewN w.heap.size _ _) (Nat.le_refl _))⟩
      case measure => simp [intOf]
    · have ht := keep (depF_take q [(c0, s0), (c1, s1), (c2, s2), (c3, s3)] fs 1 (by simp))
      have hln : (depF q ([(c0, s0), (c1, s1), (c2, s2), (c3, s3)].take 1) fs).length = fs.length := depF_length _ _ _
      obtain ⟨F, r, z1, e1, e2, z4⟩ := CH.out (depF q ([(c0, s0), (c1, s1), (c2, s2), (c3, s3)].take 1) fs) c1 s1 _ (CS (c1, s1) (by simp)).2 (SM.out 1) (by simp; omega) (by omega)
      generalize depF q ([(c0, s0), (c1, s1), (c2, s2), (c3, s3)].take 1) fs = cur at *
      have z1 := (hg.out.cells c1).trans z1
      have z2 := hg.out.free c1
      have z3 := h5.out.cells 1
      have f1 := frun e1
      have f2 := frun e2
      have Z4 := keep z4
      have lg2 := hg.out.in_heap
      have l52 := h5.out.in_heap
      have ix : ∀ w, (Instr.index 174 (.agg #[.int .i64 c0, .int .i64 c1, .int .i64 c2, .int .i64 c3]) (.int .i64 1)).run Try.prog w = .ok (.int .i64 c1) w := fun w => run_ix _ 1 _ (by omega) rfl w
      clear e1 e2 z4 CS SM CH hln
      go_wp2_with fail
      clear ix
      go_region
      go_wp2_with fail
      go_roundw
      case rel => exact ⟨2, by omega, rfl, keep (by
        rw [ht.out]
        show Has _ g 27 (fCells 8 (addAt cur c1 (q * s1)))
        rw [← Z4.out]
        exact (hg.out.written c1 _).draws _), keep ((h5.out.elsewhere (p := ⟨g, c1, none⟩) (by show w1.heap.size + 1 ≠ g; omega) _).draws _), keep (gb_below (gb_trans hgr.out (gb_row' _ g c1 _)) (Below.drewN w.heap.size _ _) (Nat.le_refl _))⟩
      case measure => simp [intOf]
    · have ht := keep (depF_take q [(c0, s0), (c1, s1), (c2, s2), (c3, s3)] fs 2 (by simp))
      have hln : (depF q ([(c0, s0), (c1, s1), (c2, s2), (c3, s3)].take 2) fs).length = fs.length := depF_length _ _ _
      obtain ⟨F, r, z1, e1, e2, z4⟩ := CH.out (depF q ([(c0, s0), (c1, s1), (c2, s2), (c3, s3)].take 2) fs) c2 s2 _ (CS (c2, s2) (by simp)).2 (SM.out 2) (by simp; omega) (by omega)
      generalize depF q ([(c0, s0), (c1, s1), (c2, s2), (c3, s3)].take 2) fs = cur at *
      have z1 := (hg.out.cells c2).trans z1
      have z2 := hg.out.free c2
      have z3 := h5.out.cells 2
      have f1 := frun e1
      have f2 := frun e2
      have Z4 := keep z4
      have lg2 := hg.out.in_heap
      have l52 := h5.out.in_heap
      have ix : ∀ w, (Instr.index 174 (.agg #[.int .i64 c0, .int .i64 c1, .int .i64 c2, .int .i64 c3]) (.int .i64 2)).run Try.prog w = .ok (.int .i64 c2) w := fun w => run_ix _ 2 _ (by omega) rfl w
      clear e1 e2 z4 CS SM CH hln
      go_wp2_with fail
      clear ix
      go_region
      go_wp2_with fail
      go_roundw
      case rel => exact ⟨3, by omega, rfl, keep (by
        rw [ht.out]
        show Has _ g 27 (fCells 8 (addAt cur c2 (q * s2)))
        rw [← Z4.out]
        exact (hg.out.written c2 _).draws _), keep ((h5.out.elsewhere (p := ⟨g, c2, none⟩) (by show w1.heap.size + 1 ≠ g; omega) _).draws _), keep (gb_below (gb_trans hgr.out (gb_row' _ g c2 _)) (Below.drewN w.heap.size _ _) (Nat.le_refl _))⟩
      case measure => simp [intOf]
    · have ht := keep (depF_take q [(c0, s0), (c1, s1), (c2, s2), (c3, s3)] fs 3 (by simp))
      have hln : (depF q ([(c0, s0), (c1, s1), (c2, s2), (c3, s3)].take 3) fs).length = fs.length := depF_length _ _ _
      obtain ⟨F, r, z1, e1, e2, z4⟩ := CH.out (depF q ([(c0, s0), (c1, s1), (c2, s2), (c3, s3)].take 3) fs) c3 s3 _ (CS (c3, s3) (by simp)).2 (SM.out 3) (by simp; omega) (by omega)
      generalize depF q ([(c0, s0), (c1, s1), (c2, s2), (c3, s3)].take 3) fs = cur at *
      have z1 := (hg.out.cells c3).trans z1
      have z2 := hg.out.free c3
      have z3 := h5.out.cells 3
      have f1 := frun e1
      have f2 := frun e2
      have Z4 := keep z4
      have lg2 := hg.out.in_heap
      have l52 := h5.out.in_heap
      have ix : ∀ w, (Instr.index 174 (.agg #[.int .i64 c0, .int .i64 c1, .int .i64 c2, .int .i64 c3]) (.int .i64 3)).run Try.prog w = .ok (.int .i64 c3) w := fun w => run_ix _ 3 _ (by omega) rfl w
      clear e1 e2 z4 CS SM CH hln
      go_wp2_with fail
      clear ix
      go_region
      go_wp2_with fail
      go_roundw
      case rel => exact ⟨4, by omega, rfl, keep (by
        rw [ht.out]
        show Has _ g 27 (fCells 8 (addAt cur c3 (q * s3)))
        rw [← Z4.out]
        exact (hg.out.written c3 _).draws _), keep ((h5.out.elsewhere (p := ⟨g, c3, none⟩) (by show w1.heap.size + 1 ≠ g; omega) _).draws _), keep (gb_below (gb_trans hgr.out (gb_row' _ g c3 _)) (Below.drewN w.heap.size _ _) (Nat.le_refl _))⟩
      case measure => simp [intOf]
    · have hg4 := hg.out
      simp only [List.take_succ_cons, List.take_zero] at hg4
      have HG := keep hg4
      clear hg4 CS SM CH
      go_wp2_with fail
      go_end0
      exact ⟨rfl, HG.out, hgr.out⟩
end Go.Proofs.Ytnmdgbnophclnaa
