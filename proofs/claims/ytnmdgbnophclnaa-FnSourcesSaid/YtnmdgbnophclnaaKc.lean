/- Contracts: fields, sums of numbers, equal lists of numbers. -/
import Derived.Test.YtnmdgbnophclnaaKb
namespace Go.Proofs.Ytnmdgbnophclnaa
open Go.RowKit Go.Sort Ieee
set_option linter.unusedSimpArgs false

def sumL (fs : List Int) : Int := fs.sum
theorem sumL_take (fs : List Int) (i : Nat) (h : i < fs.length) : sumL (fs.take (i + 1)) = sumL (fs.take i) + fs[i] := by
  unfold sumL
  rw [List.take_succ_eq_append_getElem h, List.sum_append]
  simp
theorem sumL_bound (fs : List Int) (M : Nat) (h : Small fs M) : (sumL fs).natAbs ≤ M * fs.length := by
  induction fs with
  | nil => simp [sumL]
  | cons n fs ih =>
    have h1 := ih (fun q hq => h q (List.mem_cons_of_mem _ hq))
    have h2 := h n (List.mem_cons_self ..)
    unfold sumL at *
    simp only [List.sum_cons, List.length_cons]
    rw [Nat.mul_succ]
    omega
theorem Small.take {fs : List Int} {M : Nat} (h : Small fs M) (i : Nat) : Small (fs.take i) M := fun n hn => h n (List.mem_of_mem_take hn)

set_option maxHeartbeats 2000000 in
set_option maxRecDepth 20000 in
theorem sum_ok (k : Nat) (hk : k ≤ 60) (g : Nat) (fs : List Int) (M : Nat) (hM : Small fs M) (hM2 : M * fs.length ≤ 4000000) (hl : fs.length ≤ 200) (c : Nat) (w : World) (hh : Has w g 27 (fCells k fs)) :
    Calls Try.prog 107 #[.slice (some ⟨g, 0, none⟩) fs.length c] w fun e w' => e = .returned (.float .f32 (wd single k (sumL fs))) ∧ w' = w := by
  have HH := keep hh
  have HM := keep hM
  have z0 := wd_zero single k
  clear hh hM
  go_enter Try.func107, Try.ntmps107
  go_wp2_with fail
  go_loopw [8, 3] (fun s t wr => ∃ (i : Nat) (S : Int), i ≤ fs.length ∧ s = .int .i64 i ∧ t = .float .f32 (wd single k S) ∧ Kept (S = sumL (fs.take i)) ∧ wr = w) (fun s _ _ => fs.length - (intOf s).toNat)
  case atStart => exact ⟨0, 0, Nat.zero_le _, rfl, by rw [z0], keep (by simp [sumL]), rfl⟩
  case round =>
    clear z0
    obtain ⟨i, S, hi, rfl, rfl, hS, rfl⟩ := hrel
    by_cases hlt : i < fs.length
    · have z1 := (HH.out.cells i).trans (fCells_at k fs i hlt)
      have hS1 := keep ((hS.out ▸ sumL_take fs i hlt : sumL (fs.take (i + 1)) = S + fs[i]))
      have b0 := sumL_bound (fs.take i) M (HM.out.take i)
      rw [← hS.out, List.length_take] at b0
      have b1 := HM.out fs[i] (List.getElem_mem hlt)
      have b2 : M * min i fs.length ≤ M * fs.length := Nat.mul_le_mul_left _ (by omega)
      have b3 : M ≤ M * fs.length := by
        have := Nat.mul_le_mul_left M (show 1 ≤ fs.length by omega)
        omega
      generalize fs[i] = n at *
      generalize M * min i fs.length = X at *
      generalize M * fs.length = Y at *
      have f1 := frun (fadd (k := k) (a := S) (b := n) (by omega) (by omega) (by omega) (by omega))
      clear b0 b1 b2 b3
      go_wp2_with fail
      go_roundw
      case rel => exact ⟨i + 1, S + n, by omega, by go_num, rfl, keep hS1.out.symm, by trivial⟩
      case measure => simp [intOf]; omega
    · obtain rfl : i = fs.length := by omega
      go_wp2_with fail
      go_ret
      exact ⟨by rw [hS.out, List.take_length]; rfl, rfl⟩

end Go.Proofs.Ytnmdgbnophclnaa
