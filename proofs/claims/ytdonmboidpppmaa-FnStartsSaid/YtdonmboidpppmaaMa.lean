/- Contract: the number of a field at a place. -/
import Derived.Test.YtdonmboidpppmaaKg
namespace Go.Proofs.Ytdonmboidpppmaa
open Go.RowKit Go.Sort Ieee
set_option linter.unusedSimpArgs false

/-- The cells of a field in a block, of numbers n / 2^k. -/
def FldAt (w : World) (g k : Nat) (fs : List Int) : Prop := g < w.heap.size ∧ ∀ i (h : i < fs.length), w.cell? ⟨g, i, none⟩ = some (.float .f32 (wd single k fs[i]))
theorem Has.fld {w : World} {g k : Nat} {fs : List Int} (h : Has w g 32 (fCells k fs)) : FldAt w g k fs := ⟨h.in_heap, fun i hi => (h.cells i).trans (fCells_at k fs i hi)⟩
theorem FldAt.after {w w' : World} {g k : Nat} {fs : List Int} (h : FldAt w g k fs) (hb : Below w.heap.size w w') : FldAt w' g k fs :=
  ⟨Nat.lt_of_lt_of_le h.1 hb.size, fun i hi => (hb.cell (p := ⟨g, i, none⟩) h.1).trans (h.2 i hi)⟩
theorem FldAt.beside {w : World} {g k : Nat} {fs : List Int} (h : FldAt w g k fs) (o : Obj) : FldAt (w.alloc o) g k fs := h.after ((Below.refl w.heap.size w).alloc (Nat.le_refl _) o)
theorem FldAt.draws {w : World} {g k : Nat} {fs : List Int} (h : FldAt w g k fs) (m : Nat) : FldAt (w.drewN m) g k fs := h.after (Below.drewN _ w m)

/-- What a field has at corners, by shares. -/
def gatF (cs : List (Nat × Int)) (fs : List Int) : Int := (cs.map fun c => c.2 * fs.getD c.1 0).sum
theorem gatF_take (cs : List (Nat × Int)) (fs : List Int) (i : Nat) (h : i < cs.length) : gatF (cs.take (i + 1)) fs = gatF (cs.take i) fs + cs[i].2 * fs.getD cs[i].1 0 := by
  unfold gatF
  rw [List.take_succ_eq_append_getElem h, List.map_append, List.sum_append]
  simp
theorem gatF_bound (fs : List Int) (M : Nat) (hM : Small fs M) : ∀ (cs : List (Nat × Int)), (∀ c ∈ cs, c.2.natAbs ≤ 64) → (gatF cs fs).natAbs ≤ 64 * M * cs.length
  | [], _ => by simp [gatF]
  | c :: cs, h => by
    have h1 := gatF_bound fs M hM cs (fun x hx => h x (List.mem_cons_of_mem _ hx))
    have h2 := natAbs_mul_le (h c (List.mem_cons_self ..)) (hM.at c.1)
    unfold gatF at *
    rw [List.map_cons, List.sum_cons, List.length_cons, Nat.mul_succ]
    omega

/-- A product of a share and a number of a field, added to a number. -/
theorem gather_step (k : Nat) (hk : k ≤ 10) (G F s : Int) (hG : G.natAbs ≤ 8000000) (hF : F.natAbs ≤ 10000) (hs : s.natAbs ≤ 64) : ∃ r, floatBits .mul .f32 (wd single 6 s) (wd single k F) = some r ∧ floatBits .add .f32 (wd single (6 + k) G) r = some (wd single (6 + k) (G + s * F)) := by
  have hb : (s * F).natAbs ≤ 64 * 10000 := natAbs_mul_le hs hF
  obtain ⟨r, e, hr, hl⟩ := mul_is (f := single) fit_single binade_le_single (k := 6) (l := k) (a := s) (b := F) (by decide) (by show k + 23 ≤ 149; omega) (by show 6 + k + 23 ≤ 149; omega) (by show s.natAbs < 16777216; omega) (by show F.natAbs < 16777216; omega) (by show (s * F).natAbs < 16777216; omega)
  exact ⟨r, e, add_is (f := single) fit_single binade_le_single hr hl (by show 6 + k + 23 ≤ 149; omega) (by show G.natAbs < 16777216; omega) (by show (s * F).natAbs < 16777216; omega) (by show (G + s * F).natAbs < 16777216; omega)⟩

set_option maxHeartbeats 4000000 in
set_option maxRecDepth 20000 in
theorem gather_ok (W H : Nat) (h : Sides W H) (x y : Int) (hp : PlaceOk x y) (k : Nat) (hk : k ≤ 10) (g cp : Nat) (fs : List Int) (hl : fs.length = W * H) (M : Nat) (hM : Small fs M) (hM2 : M ≤ 10000) (w : World) (hh : FldAt w g k fs) :
    Calls Try.prog 43 #[gridV W H, .slice (some ⟨g, 0, none⟩) (W * H) cp, placeV x y] w fun e w' => e = .returned (.float .f32 (wd single (6 + k) (gatF (cornersL W H x y) fs))) ∧ Below w.heap.size w w' := by
  have SH := keep (fun w => shares_ok W H h x y hp w)
  have CS := cornersL_share W H x y
  unfold cornersV sharesV at SH
  unfold cornersL at *
  obtain ⟨c0, e0, l0⟩ := idx_nat W H h (md x W / 8) (md y H / 8)
  obtain ⟨c1, e1, l1⟩ := idx_nat W H h (md x W / 8 + 1) (md y H / 8)
  obtain ⟨c2, e2, l2⟩ := idx_nat W H h (md x W / 8) (md y H / 8 + 1)
  obtain ⟨c3, e3, l3⟩ := idx_nat W H h (md x W / 8 + 1) (md y H / 8 + 1)
  simp only [e0, e1, e2, e3, Int.toNat_natCast] at SH CS ⊢
  generalize (8 - frac x W) * (8 - frac y H) = s0 at *
  generalize frac x W * (8 - frac y H) = s1 at *
  generalize (8 - frac x W) * frac y H = s2 at *
  generalize frac x W * frac y H = s3 at *
  rw [← hl] at l0 l1 l2 l3 ⊢
  have H0 := keep (hh.beside (.cells #[.int .i64 W, .int .i64 H] 25))
  have B0 := keep ((Below.refl w.heap.size w).alloc (Nat.le_refl _) (.cells #[.int .i64 W, .int .i64 H] 25))
  have GB := keep (fun i => gatF_bound fs M hM ([(c0, s0), (c1, s1), (c2, s2), (c3, s3)].take i) (fun c hc => (CS c (List.mem_of_mem_take hc)).2))
  have GT := keep (fun i hi => gatF_take [(c0, s0), (c1, s1), (c2, s2), (c3, s3)] fs i hi)
  have GA := keep (fun c => hM.at c)
  have CH := keep (fun G F s hG hF hs => gather_step k hk G F s hG hF hs)
  have GD := keep (fun c h => getD_at fs c h)
  have z0 := wd_zero single (6 + k)
  clear hp h e0 e1 e2 e3 hh hl hM
  unfold gridV placeV at *
  go_enter Try.func43, Try.ntmps43
  go_wp2_with fail
  refine (SH.out _).mono ?_
  rintro e w1 ⟨rfl, hb⟩
  have H1 := keep (H0.out.after hb)
  have B1 := keep (B0.out.trans (hb.mono B0.out.size))
  clear hb H0 B0 SH
  go_wp2_with fail
  have P5 := keep ((Has.made (w1.alloc (.cells #[.int .i64 c0, .int .i64 c1, .int .i64 c2, .int .i64 c3] 95)) 96 #[.float .f32 (wd single 6 s0), .float .f32 (wd single 6 s1), .float .f32 (wd single 6 s2), .float .f32 (wd single 6 s3)]))
  have H2 := keep ((H1.out.beside (.cells #[.int .i64 c0, .int .i64 c1, .int .i64 c2, .int .i64 c3] 95)).beside (.cells #[.float .f32 (wd single 6 s0), .float .f32 (wd single 6 s1), .float .f32 (wd single 6 s2), .float .f32 (wd single 6 s3)] 96))
  have B2 := keep ((B1.out.alloc B1.out.size (.cells #[.int .i64 c0, .int .i64 c1, .int .i64 c2, .int .i64 c3] 95)).alloc (by have := B1.out.size; simp only [World.size_alloc]; omega) (.cells #[.float .f32 (wd single 6 s0), .float .f32 (wd single 6 s1), .float .f32 (wd single 6 s2), .float .f32 (wd single 6 s3)] 96))
  simp only [World.size_alloc] at P5
  clear H1 B1
  generalize (w1.alloc (.cells #[.int .i64 c0, .int .i64 c1, .int .i64 c2, .int .i64 c3] 95)).alloc (.cells #[.float .f32 (wd single 6 s0), .float .f32 (wd single 6 s1), .float .f32 (wd single 6 s2), .float .f32 (wd single 6 s3)] 96) = W1 at *
  go_loopw [19, 9] (fun s t wr => ∃ i m : Nat, i ≤ 4 ∧ s = .int .i64 i ∧ t = .float .f32 (wd single (6 + k) (gatF ([(c0, s0), (c1, s1), (c2, s2), (c3, s3)].take i) fs)) ∧ wr = W1.drewN m) (fun s _ _ => 4 - (intOf s).toNat)
  case atStart => exact ⟨0, 0, by omega, rfl, by rw [show gatF ([(c0, s0), (c1, s1), (c2, s2), (c3, s3)].take 0) fs = 0 from rfl, z0], rfl⟩
  case round =>
    clear z0
    obtain ⟨i, m, hi, rfl, rfl, rfl⟩ := hrel
    have hks : i = 0 ∨ i = 1 ∨ i = 2 ∨ i = 3 ∨ i = 4 := by omega
    rcases hks with rfl | rfl | rfl | rfl | rfl
    · have gt := GT.out 0 (by simp)
      have gb := GB.out 0
      have fa := GA.out c0
      generalize gatF ([(c0, s0), (c1, s1), (c2, s2), (c3, s3)].take 0) fs = G at *
      have gt : gatF ([(c0, s0), (c1, s1), (c2, s2), (c3, s3)].take (0 + 1)) fs = G + s0 * fs.getD c0 0 := gt
      have z1 := H2.out.2 c0 l0
      rw [← GD.out c0 l0] at z1
      obtain ⟨r, e1, e2⟩ := CH.out G (fs.getD c0 0) s0 (by simp at gb; omega) (by omega) (CS (c0, s0) (by simp)).2
      rw [← gt] at e2
      generalize fs.getD c0 0 = F at *
      have z3 := P5.out.cells 0
      have f1 := frun e1
      have f2 := frun e2
      have lg2 := H2.out.1
      have l52 := P5.out.in_heap
      have ix : ∀ w, (Instr.index 95 (.agg #[.int .i64 c0, .int .i64 c1, .int .i64 c2, .int .i64 c3]) (.int .i64 0)).run Try.prog w = .ok (.int .i64 c0) w := fun w => run_ix _ 0 _ (by omega) rfl w
      clear e1 e2 CS GB GT GA CH GD gt gb fa
      go_wp2_with fail
      clear ix
      go_quiet (fail)
      go_wp2_with fail
      go_roundw
      case rel => exact ⟨1, _, by omega, rfl, rfl, rfl⟩
      case measure => simp [intOf]
    · have gt := GT.out 1 (by simp)
      have gb := GB.out 1
      have fa := GA.out c1
      generalize gatF ([(c0, s0), (c1, s1), (c2, s2), (c3, s3)].take 1) fs = G at *
      have gt : gatF ([(c0, s0), (c1, s1), (c2, s2), (c3, s3)].take (1 + 1)) fs = G + s1 * fs.getD c1 0 := gt
      have z1 := H2.out.2 c1 l1
      rw [← GD.out c1 l1] at z1
      obtain ⟨r, e1, e2⟩ := CH.out G (fs.getD c1 0) s1 (by simp at gb; omega) (by omega) (CS (c1, s1) (by simp)).2
      rw [← gt] at e2
      generalize fs.getD c1 0 = F at *
      have z3 := P5.out.cells 1
      have f1 := frun e1
      have f2 := frun e2
      have lg2 := H2.out.1
      have l52 := P5.out.in_heap
      have ix : ∀ w, (Instr.index 95 (.agg #[.int .i64 c0, .int .i64 c1, .int .i64 c2, .int .i64 c3]) (.int .i64 1)).run Try.prog w = .ok (.int .i64 c1) w := fun w => run_ix _ 1 _ (by omega) rfl w
      clear e1 e2 CS GB GT GA CH GD gt gb fa
      go_wp2_with fail
      clear ix
      go_quiet (fail)
      go_wp2_with fail
      go_roundw
      case rel => exact ⟨2, _, by omega, rfl, rfl, rfl⟩
      case measure => simp [intOf]
    · have gt := GT.out 2 (by simp)
      have gb := GB.out 2
      have fa := GA.out c2
      generalize gatF ([(c0, s0), (c1, s1), (c2, s2), (c3, s3)].take 2) fs = G at *
      have gt : gatF ([(c0, s0), (c1, s1), (c2, s2), (c3, s3)].take (2 + 1)) fs = G + s2 * fs.getD c2 0 := gt
      have z1 := H2.out.2 c2 l2
      rw [← GD.out c2 l2] at z1
      obtain ⟨r, e1, e2⟩ := CH.out G (fs.getD c2 0) s2 (by simp at gb; omega) (by omega) (CS (c2, s2) (by simp)).2
      rw [← gt] at e2
      generalize fs.getD c2 0 = F at *
      have z3 := P5.out.cells 2
      have f1 := frun e1
      have f2 := frun e2
      have lg2 := H2.out.1
      have l52 := P5.out.in_heap
      have ix : ∀ w, (Instr.index 95 (.agg #[.int .i64 c0, .int .i64 c1, .int .i64 c2, .int .i64 c3]) (.int .i64 2)).run Try.prog w = .ok (.int .i64 c2) w := fun w => run_ix _ 2 _ (by omega) rfl w
      clear e1 e2 CS GB GT GA CH GD gt gb fa
      go_wp2_with fail
      clear ix
      go_quiet (fail)
      go_wp2_with fail
      go_roundw
      case rel => exact ⟨3, _, by omega, rfl, rfl, rfl⟩
      case measure => simp [intOf]
    · have gt := GT.out 3 (by simp)
      have gb := GB.out 3
      have fa := GA.out c3
      generalize gatF ([(c0, s0), (c1, s1), (c2, s2), (c3, s3)].take 3) fs = G at *
      have gt : gatF ([(c0, s0), (c1, s1), (c2, s2), (c3, s3)].take (3 + 1)) fs = G + s3 * fs.getD c3 0 := gt
      have z1 := H2.out.2 c3 l3
      rw [← GD.out c3 l3] at z1
      obtain ⟨r, e1, e2⟩ := CH.out G (fs.getD c3 0) s3 (by simp at gb; omega) (by omega) (CS (c3, s3) (by simp)).2
      rw [← gt] at e2
      generalize fs.getD c3 0 = F at *
      have z3 := P5.out.cells 3
      have f1 := frun e1
      have f2 := frun e2
      have lg2 := H2.out.1
      have l52 := P5.out.in_heap
      have ix : ∀ w, (Instr.index 95 (.agg #[.int .i64 c0, .int .i64 c1, .int .i64 c2, .int .i64 c3]) (.int .i64 3)).run Try.prog w = .ok (.int .i64 c3) w := fun w => run_ix _ 3 _ (by omega) rfl w
      clear e1 e2 CS GB GT GA CH GD gt gb fa
      go_wp2_with fail
      clear ix
      go_quiet (fail)
      go_wp2_with fail
      go_roundw
      case rel => exact ⟨4, _, by omega, rfl, rfl, rfl⟩
      case measure => simp [intOf]
    · go_wp2_with fail
      go_ret
      exact ⟨rfl, Below.drewN_of B2.out _⟩
end Go.Proofs.Ytdonmboidpppmaa
