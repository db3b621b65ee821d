/- The check number and the lines of a journal: plain functions, and the contracts of those functions that reckon them. No condition but those stated. -/
import Derived.Test.YtldnldgndjbhfaaDoorRows
import Derived.Test.YtldnldgndjbhfaaDoorKeep
import Derived.Test.YtldnldgndjbhfaaDoorShelf
import Derived.WalkKit
import Derived.WalkSpells
import Derived.WalkLawsBesides
import Derived.LoopTactic
import Derived.Handy
import Derived.Lib.Hide
import Derived.Lib.LaidTab
namespace Go.Proofs.YtldnldgndjbhfaaDoor
open Go.RowKit


/-- The check number of bytes behind another one. -/
def ck (n : Int) (l : List UInt8) : Int := l.foldl (fun n b => (719 * n + b.toNat + 53) % 65003) n
theorem ck_snoc (n : Int) (l : List UInt8) (b : UInt8) : ck n (l ++ [b]) = (719 * ck n l + b.toNat + 53) % 65003 := by
  unfold ck; rw [List.foldl_append]; rfl
theorem ck_bound (n : Int) (l : List UInt8) (h0 : 0 ≤ n) (h1 : n ≤ 65002) : 0 ≤ ck n l ∧ ck n l ≤ 65002 := by
  induction l generalizing n with
  | nil => exact ⟨h0, h1⟩
  | cons b l ih =>
    have e : ck n (b :: l) = ck ((719 * n + b.toNat + 53) % 65003) l := rfl
    rw [e]
    exact ih _ (by omega) (by omega)
theorem take_snoc (s : ByteArray) (k : Nat) (h : k < s.size) : s.data.toList.take (k + 1) = s.data.toList.take k ++ [s[k]] := by
  rw [List.take_succ_eq_append_getElem (by simpa using h)]; rfl

theorem ret_int {k : IntKind} {a b : Int} (h : a = b) : Ending.returned (.int k a) = .returned (.int k b) := by rw [h]

theorem withinJ (n lo hi : Int) (w : World) : Calls Tryd.prog 49 #[.int .i64 n, .int .i64 lo, .int .i64 hi] w fun e w' => e = .returned (.bool (decide (lo ≤ n) && decide (n ≤ hi))) ∧ w' = w := by
  by_cases h : lo ≤ n
  all_goals
    go_enter Tryd.func49, Tryd.ntmps49
    go_wp2
    go_ret
    exact ⟨by first | (simp [h]; done) | (simp; omega), rfl⟩

set_option maxHeartbeats 1000000 in
theorem CheckOf_any (n : Int) (s : ByteArray) (w : World) (hs : s.size ≤ 100000000) (h0 : 0 ≤ n) (h1 : n ≤ 65002) :
    Calls Tryd.prog 31 #[.int .i64 n, .string s] w fun e w' => e = .returned (.tuple #[.int .i64 (ck n s.data.toList), .bool true]) ∧ w' = w := by
  have HB := keep (fun k : Nat => ck_bound n (s.data.toList.take k) h0 h1)
  have hw := fun w => withinJ n 0 65002 w
  rw [show (decide (0 ≤ n) && decide (n ≤ 65002)) = true by simp; omega] at hw
  have HW := keep hw
  clear h0 h1 hw
  go_enter Tryd.func31, Tryd.ntmps31
  go_wp2_with (go_at_call 49; refine (HW.out _).mono ?_; rintro e w' ⟨rfl, rfl⟩)
  go_loop [0, 12] (fun c i => ∃ k : Nat, k ≤ s.size ∧ i = .int .i64 k ∧ c = .int .i64 (ck n (s.data.toList.take k))) (fun _ i => s.size - (intOf i).toNat)
  case atStart => exact ⟨0, Nat.zero_le _, rfl, rfl⟩
  case round =>
    obtain ⟨k, hk, rfl, rfl⟩ := hrel
    have hb := HB.out k
    by_cases hlt : k < s.size
    · have hsn := ck_snoc n (s.data.toList.take k) s[k]
      rw [← take_snoc s k hlt] at hsn
      have HS := keep hsn
      clear hsn
      obtain ⟨hb0, hb1⟩ := hb
      generalize ck n (s.data.toList.take k) = c at *
      have hby : (s[k].toNat : Int) < 256 := by have := s[k].toNat_lt; omega
      go_wp2
      go_round
      case rel => exact ⟨k + 1, by omega, by go_num, by rw [HS.out]⟩
      case measure => simp [intOf]; omega
    · have e : s.data.toList.take k = s.data.toList := List.take_of_length_le (by simp; omega)
      rw [e]
      clear e hb
      go_wp2
      go_ret2
      exact ⟨rfl, rfl⟩
end Go.Proofs.YtldnldgndjbhfaaDoor
