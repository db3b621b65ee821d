/- Contract: a field that is shifted around the edges. -/
import Derived.Test.YtnmdgbnophclnaaKe
namespace Go.Proofs.Ytnmdgbnophclnaa
open Go.RowKit Go.Sort Ieee
set_option linter.unusedSimpArgs false

/-- The shifted field, cell by cell. -/
def shiftF (W H : Nat) (X Y : Int) (fs : List Int) : List Int := (List.range (W * H)).map fun k => fs.getD (idx W H (((k % W : Nat) : Int) - X) (((k / W : Nat) : Int) - Y)).toNat 0
theorem shiftF_length (W H : Nat) (X Y : Int) (fs : List Int) : (shiftF W H X Y fs).length = W * H := by unfold shiftF; rw [List.length_map, List.length_range]
theorem shiftF_at (W H : Nat) (X Y : Int) (fs : List Int) (u v : Nat) (hu : u < W) (hv : v < H) : (shiftF W H X Y fs)[v * W + u]? = some (fs.getD (idx W H ((u : Int) - X) ((v : Int) - Y)).toNat 0) := by
  have hk : v * W + u < W * H := by
    have : (v + 1) * W ≤ H * W := Nat.mul_le_mul_right W hv
    rw [Nat.add_mul, Nat.one_mul] at this
    rw [Nat.mul_comm W H]
    omega
  unfold shiftF
  rw [List.getElem?_map, List.getElem?_range hk]
  have e1 : (v * W + u) % W = u := by rw [Nat.mul_comm, Nat.mul_add_mod]; exact Nat.mod_eq_of_lt hu
  have e2 : (v * W + u) / W = v := by rw [Nat.mul_comm, Nat.mul_add_div (by omega)]; rw [Nat.div_eq_of_lt hu]; omega
  simp only [Option.map_some, e1, e2]
theorem idx_in (W H u v : Nat) (hu : u < W) (hv : v < H) : idx W H (u : Int) (v : Int) = ((v * W + u : Nat) : Int) := by
  unfold idx
  rw [Int.emod_eq_of_lt (by omega) (by omega), Int.emod_eq_of_lt (by omega) (by omega), Int.natCast_add, Int.natCast_mul, Int.mul_comm]
  omega
theorem Small.shift {fs : List Int} {M : Nat} (h : Small fs M) (W H : Nat) (X Y : Int) : Small (shiftF W H X Y fs) M := by
  intro n hn
  obtain ⟨k, _, rfl⟩ := List.mem_map.1 hn
  exact h.at _

/-- Of the cells the first m are written. -/
def mixF (fs : List Int) (m : Nat) : List Int := fs.take m ++ List.replicate (fs.length - m) 0
theorem mixF_length (fs : List Int) (m : Nat) (h : m ≤ fs.length) : (mixF fs m).length = fs.length := by
  unfold mixF; rw [List.length_append, List.length_take, List.length_replicate]; omega
theorem mixF_step (fs : List Int) (m : Nat) (n : Int) (h : m < fs.length) (hn : fs[m]? = some n) : (mixF fs m).set m n = mixF fs (m + 1) := by
  unfold mixF
  obtain ⟨k, hk⟩ : ∃ k, fs.length - m = k + 1 := ⟨fs.length - m - 1, by omega⟩
  have ht : (fs.take m).length = m := by rw [List.length_take]; omega
  have hg : fs[m] = n := by rw [List.getElem?_eq_getElem h] at hn; injection hn
  rw [List.set_append_right _ _ (by omega), ht, Nat.sub_self, hk, List.replicate_succ, List.set_cons_zero, List.take_succ_eq_append_getElem h, hg, show fs.length - (m + 1) = k from by omega, List.append_assoc]
  rfl
theorem mixF_full (fs : List Int) : mixF fs fs.length = fs := by unfold mixF; simp
theorem mixF_zero (fs : List Int) : mixF fs 0 = List.replicate fs.length 0 := by unfold mixF; simp

theorem getD_at (fs : List Int) (c : Nat) (h : c < fs.length) : fs.getD c 0 = fs[c] := by rw [List.getD_eq_getElem?_getD, List.getElem?_eq_getElem h]; rfl

end Go.Proofs.Ytnmdgbnophclnaa
