/- Contracts: fields, sums of numbers, equal lists of numbers. -/
import Derived.Test.YtmnpijhnfdiomaaKb
namespace Go.Proofs.Ytmnpijhnfdiomaa
open Go.RowKit Go.Sort Ieee
set_option linter.unusedSimpArgs false

theorem length_ok (a : Option Addr) (n c : Nat) (w : World) : Calls Try.prog 70 #[.slice a n c] w fun e w' => e = .returned (.int .i64 n) ∧ w' = w := by
  go_enter Try.func70, Try.ntmps70
  go_wp2_with fail
  go_ret
  exact ⟨rfl, rfl⟩

set_option maxHeartbeats 2000000 in
set_option maxRecDepth 20000 in
theorem IsField_ok (W H : Nat) (h : Sides W H) (a : Option Addr) (c : Nat) (w : World) : Calls Try.prog 32 #[gridV W H, .slice a (W * H) c] w fun e w' => e = .returned (.bool true) ∧ Below w.heap.size w w' := by
  have A := keep (fun w d os => Calls.regrown_of (ValidGrid_ok W H h (grow (redrawn w d) os)))
  have B := keep (fun w d os => Calls.regrown_of (size_ok W H h (grow (redrawn w d) os)))
  have C := keep (fun n w d os => Calls.regrown_of ((length_ok a n c (grow (redrawn w d) os)).mono fun _ _ ⟨he, hw⟩ => ⟨he, hw ▸ Below.refl _ _⟩))
  have P := keep (Has.made w 25 #[.int .i64 W, .int .i64 H])
  have k0 := cell_regrown (P.out.cells 0)
  have k1 := cell_regrown (P.out.cells 1)
  have B0 := keep ((Below.refl w.heap.size w).alloc (Nat.le_refl _) (.cells #[.int .i64 W, .int .i64 H] 25))
  generalize W * H = n at *
  have hbn : ((n : Int) == (n : Int)) = true := by simp
  clear h
  unfold gridV at *
  go_enter Try.func32, Try.ntmps32
  go_wp2_with fail
  refine wp_region_quiet_below (by as_aux_lemma => kernel_rfl) (by as_aux_lemma => kernel_rfl) ?_
  repeat (any_goals (go_big_quiet_step (first | (with_reducible exact A.out _ _ _) | (with_reducible exact B.out _ _ _) | (with_reducible exact C.out _ _ _ _))))
  refine wpQuiet_nil ?_
  intro w2 hw2
  obtain ⟨⟨d2, os2⟩, rfl⟩ := hw2
  have hb2 := below_regrown (w.alloc (.cells #[.int .i64 W, .int .i64 H] 25)) d2 os2
  generalize grow (redrawn (w.alloc (.cells #[.int .i64 W, .int .i64 H] 25)) d2) os2 = w2 at *
  have hB := B0.out.trans (hb2.mono (by simp))
  clear k0 k1 hb2
  go_wp2_with fail
  go_ret
  exact ⟨rfl, hB⟩

def sumL (fs : List Int) : Int := fs.sum
theorem sumL_take (fs : List Int) (i : Nat) (h : i < fs.length) : sumL (fs.take (i + 1)) = sumL (fs.take i) + fs[i] := by
  unfold sumL
  rw [List.take_succ_eq_append_getElem h, List.sum_append]
  simp
theorem sumL_bound (fs : List Int) (M : Nat) (h : Small fs M) : (sumL fs).natAbs ≤ M * fs.length := by
  induction fs with
  | nil => simp [sumL]
  | cons n fs ih =>
    have h1 := ih (fun q hq => h q (List.mem_cons_of_mem _ hq))
    have h2 := h n (List.mem_cons_self ..)
    unfold sumL at *
    simp only [List.sum_cons, List.length_cons]
    rw [Nat.mul_succ]
    omega
theorem Small.take {fs : List Int} {M : Nat} (h : Small fs M) (i : Nat) : Small (fs.take i) M := fun n hn => h n (List.mem_of_mem_take hn)

set_option maxHeartbeats 2000000 in
set_option maxRecDepth 20000 in
theorem sum_ok (k : Nat) (hk : k ≤ 60) (g : Nat) (fs : List Int) (M : Nat) (hM : Small fs M) (hM2 : M * fs.length ≤ 4000000) (hl : fs.length ≤ 200) (c : Nat) (w : World) (hh : Has w g 33 (fCells k fs)) :
    Calls Try.prog 87 #[.slice (some ⟨g, 0, none⟩) fs.length c] w fun e w' => e = .returned (.float .f32 (wd single k (sumL fs))) ∧ w' = w := by
  have HH := keep hh
  have HM := keep hM
  have z0 := wd_zero single k
  clear hh hM
  go_enter Try.func87, Try.ntmps87
  go_wp2_with fail
  go_loopw [8, 3] (fun s t wr => ∃ (i : Nat) (S : Int), i ≤ fs.length ∧ s = .int .i64 i ∧ t = .float .f32 (wd single k S) ∧ Kept (S = sumL (fs.take i)) ∧ wr = w) (fun s _ _ => fs.length - (intOf s).toNat)
  case atStart => exact ⟨0, 0, Nat.zero_le _, rfl, by rw [z0], keep (by simp [sumL]), rfl⟩
  case round =>
    clear z0
    obtain ⟨i, S, hi, rfl, rfl, hS, rfl⟩ := hrel
    by_cases hlt : i < fs.length
    · have z1 := (HH.out.cells i).trans (fCells_at k fs i hlt)
      have hS1 := keep ((hS.out ▸ sumL_take fs i hlt : sumL (fs.take (i + 1)) = S + fs[i]))
      have b0 := sumL_bound (fs.take i) M (HM.out.take i)
      rw [← hS.out, List.length_take] at b0
      have b1 := HM.out fs[i] (List.getElem_mem hlt)
      have b2 : M * min i fs.length ≤ M * fs.length := Nat.mul_le_mul_left _ (by omega)
      have b3 : M ≤ M * fs.length := by
        have := Nat.mul_le_mul_left M (show 1 ≤ fs.length by omega)
        omega
      generalize fs[i] = n at *
      generalize M * min i fs.length = X at *
      generalize M * fs.length = Y at *
      have f1 := frun (fadd (k := k) (a := S) (b := n) (by omega) (by omega) (by omega) (by omega))
      clear b0 b1 b2 b3
      go_wp2_with fail
      go_roundw
      case rel => exact ⟨i + 1, S + n, by omega, by go_num, rfl, keep hS1.out.symm, by trivial⟩
      case measure => simp [intOf]; omega
    · obtain rfl : i = fs.length := by omega
      go_wp2_with fail
      go_ret
      exact ⟨by rw [hS.out, List.take_length]; rfl, rfl⟩

set_option maxHeartbeats 1000000 in
theorem TotalOf_ok (k : Nat) (hk : k ≤ 60) (g : Nat) (fs : List Int) (M : Nat) (hM : Small fs M) (hM2 : M * fs.length ≤ 4000000) (hl : fs.length ≤ 200) (c : Nat) (w : World) (hh : Has w g 33 (fCells k fs)) :
    Calls Try.prog 28 #[.slice (some ⟨g, 0, none⟩) fs.length c] w fun e w' => e = .returned (.tuple #[.float .f32 (wd single k (sumL fs)), .bool true]) ∧ w' = w := by
  have S := keep (fun w hh => sum_ok k hk g fs M hM hM2 hl c w hh)
  have HH := keep hh
  have hi : ((fs.length : Int) ≤ 256) := by omega
  clear hh hM hM2
  have L : Kept (∀ w, Calls Try.prog 86 #[.slice (some ⟨g, 0, none⟩) fs.length c] w fun e w' => e = .returned (.bool true) ∧ w' = w) := keep (by
    intro w
    clear S HH
    go_enter Try.func86, Try.ntmps86
    go_wp2_with fail
    go_ret
    exact ⟨by first | rfl | (simp; done) | (simp; omega), rfl⟩)
  have N : Kept (Calls Try.prog 68 #[.slice (some ⟨g, 0, none⟩) fs.length c] w fun e w' => e = .returned (.tuple #[.float .f32 (wd single k (sumL fs)), .bool true]) ∧ w' = w) := keep (by
    clear hi
    go_enter Try.func68, Try.ntmps68
    go_wp2_with fail
    refine (L.out _).mono ?_
    rintro e w' ⟨rfl, rfl⟩
    go_wp2_with fail
    refine (S.out _ HH.out).mono ?_
    rintro e w' ⟨rfl, rfl⟩
    go_wp2_with fail
    go_ret2
    exact ⟨rfl, rfl⟩)
  clear S L HH hi
  go_enter Try.func28, Try.ntmps28
  go_wp2_with fail
  refine N.out.mono ?_
  rintro e w' ⟨rfl, rfl⟩
  go_wp2_with fail
  go_ret2
  exact ⟨rfl, rfl⟩

set_option maxHeartbeats 2000000 in
set_option maxRecDepth 20000 in
theorem r8Equal_ok (k : Nat) (hk : k ≤ 60) (g1 g2 : Nat) (fs : List Int) (M : Nat) (hM : Small fs M) (hM2 : M ≤ 4000000) (hl : fs.length ≤ 200) (c1 c2 : Nat) (w : World) (h1 : Has w g1 33 (fCells k fs)) (h2 : Has w g2 33 (fCells k fs)) :
    Calls Try.prog 33 #[.slice (some ⟨g1, 0, none⟩) fs.length c1, .slice (some ⟨g2, 0, none⟩) fs.length c2] w fun e w' => e = .returned (.bool true) ∧ Below w.heap.size w w' := by
  have H1 := keep h1
  have H2 := keep h2
  have HM := keep hM
  have hne : ((fs.length : Int) != (fs.length : Int)) = false := by simp
  clear h1 h2 hM
  go_enter Try.func33, Try.ntmps33
  go_wp2_with fail
  clear hne
  go_loopw [5] (fun s wr => ∃ (i m : Nat), i ≤ fs.length ∧ s = .int .i64 i ∧ wr = w.drewN m) (fun s _ => fs.length - (intOf s).toNat)
  case atStart => exact ⟨0, 0, Nat.zero_le _, rfl, rfl⟩
  case round =>
    obtain ⟨i, m, hi, rfl, rfl⟩ := hrel
    by_cases hlt : i < fs.length
    · have z1 := (H1.out.cells i).trans (fCells_at k fs i hlt)
      have z2 := (H2.out.cells i).trans (fCells_at k fs i hlt)
      have b1 := HM.out fs[i] (List.getElem_mem hlt)
      generalize fs[i] = n at *
      have o1 := order_wd_self k n (by omega) (by omega)
      have hlt' : (i : Int) < (fs.length : Int) := by omega
      clear b1
      go_wp2_with fail
      go_quiet (fail)
      go_wp2_with fail
      go_roundw
      case rel => exact ⟨i + 1, _, by omega, by go_num, rfl⟩
      case measure => simp [intOf]; omega
    · obtain rfl : i = fs.length := by omega
      go_wp2_with fail
      go_ret
      exact ⟨rfl, Below.drewN _ _ _⟩
end Go.Proofs.Ytmnpijhnfdiomaa
