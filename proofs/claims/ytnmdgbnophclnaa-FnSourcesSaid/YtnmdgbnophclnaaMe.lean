/- Contracts: one number repeated; fields that are the same everywhere. -/
import Derived.Test.YtnmdgbnophclnaaMd
import Derived.Laws.CopyOwn
import Derived.Deep.RegionLaw
namespace Go.Proofs.Ytnmdgbnophclnaa
open Go.RowKit Go.Sort Ieee
set_option linter.unusedSimpArgs false

def two32 : Int := 4294967296
def mask32 : Int := 4294967295
theorem and32u (n : Nat) (h : n < 1000) : bits .and .u64 (n : Int) 4294967295 = (n : Int) := by
  have h1 := (bits_nat .u64 64 (by decide) (fun n h0 h1 => by rw [IntKind.wrap_u64]; omega) n 4294967295 (by omega) (by decide)).1
  rw [show ((4294967295 : Nat) : Int) = 4294967295 from rfl] at h1
  rw [h1, show (4294967295 : Nat) = 2 ^ 32 - 1 from rfl, Nat.and_two_pow_sub_one_eq_mod]
  omega

set_option maxHeartbeats 4000000 in
set_option maxRecDepth 20000 in
theorem Mul64_small (n : Nat) (hn : n < 1000) (w : World) : Calls Try.prog 128 #[.int .u64 1, .int .u64 n] w fun e w' => e = .returned (.tuple #[.int .u64 0, .int .u64 n]) ∧ w' = w := by
  have a1 : bits .and .u64 1 4294967295 = 1 := and32u 1 (by omega)
  have a2 := and32u n hn
  have a0 : bits .and .u64 0 4294967295 = 0 := and32u 0 (by omega)
  have d1 : (n : Int) / 4294967296 = 0 := by omega
  have d2 : (1 : Int) / 4294967296 = 0 := by omega
  have w1 : IntKind.u64.wrap (n : Int) = (n : Int) := by rw [IntKind.wrap_u64]; omega
  go_enter Try.func128, Try.ntmps128
  go_wp2_with fail
  go_ret2
  exact ⟨rfl, rfl⟩

set_option maxHeartbeats 4000000 in
set_option maxRecDepth 20000 in
theorem Mul_small (n : Nat) (hn : n < 1000) (w : World) : Calls Try.prog 109 #[.int .u64 1, .int .u64 n] w fun e w' => e = .returned (.tuple #[.int .u64 0, .int .u64 n]) ∧ w' = w := by
  have M := keep (fun w => Mul64_small n hn w)
  have w1 : IntKind.u64.wrap (n : Int) = (n : Int) := by rw [IntKind.wrap_u64]; omega
  go_enter Try.func109, Try.ntmps109
  go_wp2_with fail
  refine (M.out _).mono ?_
  rintro e w' ⟨rfl, rfl⟩
  go_wp2_with fail
  go_ret2
  exact ⟨rfl, rfl⟩

theorem run_mkF0 (n : Nat) (hn : n ≤ 1000) (w : World) : (Instr.makeSlice 43 (.int .i64 n) (.int .i64 n)).run Try.prog w = .ok (.slice (some ⟨w.heap.size, 0, none⟩) n n) (w.alloc (.cells (List.replicate n (Value.float .f32 0)).toArray 27)) := by
  rw [run_mkF n hn w, ← zeros_word, List.toArray_replicate]
theorem size_f32 : (Try.prog.info? 27).map (·.size) = some 1 := by kernel_rfl

/-- The first m of n cells hold a number. -/
def repL (v n m : Nat) : List Value := List.replicate m (Value.float .f32 v) ++ List.replicate (n - m) (Value.float .f32 0)
theorem repL_length (v n m : Nat) (h : m ≤ n) : (repL v n m).length = n := by unfold repL; simp; omega
theorem repL_at (v n m j : Nat) (h : j < m) : (repL v n m)[j]? = some (.float .f32 v) := by
  unfold repL
  rw [List.getElem?_append_left (by simpa using h), List.getElem?_replicate, if_pos h]
theorem repL_copy (v n m c : Nat) (h : m + c ≤ n) : splice (repL v n m) m (List.replicate c (Value.float .f32 v)) = repL v n (m + c) := by
  unfold splice repL
  rw [List.length_replicate, List.take_append_of_le_length (by simp), List.take_of_length_le (by simp), List.drop_append, List.length_replicate, List.drop_of_length_le (by simp), List.nil_append, List.drop_replicate, ← List.append_assoc, List.replicate_append_replicate]
  congr 2
  omega
theorem repL_full (v n : Nat) : repL v n n = List.replicate n (Value.float .f32 v) := by unfold repL; simp

end Go.Proofs.Ytnmdgbnophclnaa
