/- The check number and the lines of a journal: plain functions, and the contracts of those functions that reckon them. No condition but those stated. -/
import Derived.Test.YtcmppipilihmkaaGreatDoorRows
import Derived.Test.YtcmppipilihmkaaGreatDoorKeep
import Derived.Test.YtcmppipilihmkaaGreatDoorShelf
import Derived.WalkKit
import Derived.WalkSpells
import Derived.WalkLawsBesides
import Derived.LoopTactic
import Derived.Handy
import Derived.Lib.Hide
import Derived.Lib.LaidTab
namespace Go.Proofs.YtcmppipilihmkaaGreatDoor
open Go.RowKit


/-- The check number of bytes behind another one. -/
def ck (n : Int) (l : List UInt8) : Int := l.foldl (fun n b => (719 * n + b.toNat + 53) % 65003) n
theorem ck_snoc (n : Int) (l : List UInt8) (b : UInt8) : ck n (l ++ [b]) = (719 * ck n l + b.toNat + 53) % 65003 := by
  unfold ck; rw [List.foldl_append]; rfl
theorem ck_bound (n : Int) (l : List UInt8) (h0 : 0 ≤ n) (h1 : n ≤ 65002) : 0 ≤ ck n l ∧ ck n l ≤ 65002 := by
  induction l generalizing n with
  | nil => exact ⟨h0, h1⟩
  | cons b l ih =>
    have e : ck n (b :: l) = ck ((719 * n + b.toNat + 53) % 65003) l := rfl
    rw [e]
    exact ih _ (by omega) (by omega)
theorem take_snoc (s : ByteArray) (k : Nat) (h : k < s.size) : s.data.toList.take (k + 1) = s.data.toList.take k ++ [s[k]] := by
  rw [List.take_succ_eq_append_getElem (by simpa using h)]; rfl

theorem ret_int {k : IntKind} {a b : Int} (h : a = b) : Ending.returned (.int k a) = .returned (.int k b) := by rw [h]

theorem withinJ (n lo hi : Int) (w : World) : Calls Tryz.prog 54 #[.int .i64 n, .int .i64 lo, .int .i64 hi] w fun e w' => e = .returned (.bool (decide (lo ≤ n) && decide (n ≤ hi))) ∧ w' = w := by
  by_cases h : lo ≤ n
  all_goals
    go_enter Tryz.func54, Tryz.ntmps54
    go_wp2
    go_ret
    exact ⟨by first | (simp [h]; done) | (simp; omega), rfl⟩

end Go.Proofs.YtcmppipilihmkaaGreatDoor
