/- Contract: a number of a byte of the code. -/
import Derived.Test.YtnmdgbnophclnaaHd
namespace Go.Proofs.Ytnmdgbnophclnaa
open Go.RowKit Go.Sort Ieee
set_option linter.unusedSimpArgs false

set_option maxHeartbeats 1000000 in
theorem r8At_ok (a : Option Addr) (n c k m : Nat) (w : World) (hb : Bytes w a n) (hm : 2 ≤ m) (hm2 : m ≤ 100) :
    Calls Try.prog 31 #[.slice a n c, .int .i64 k, .int .i64 m] w fun e w' => (∃ r : Nat, r < m ∧ e = .returned (.int .i64 r)) ∧ w' = w := by
  have h1 : ¬ ((m : Int) ≤ 1) := by omega
  by_cases hlt : k < n
  · obtain ⟨b, o, rfl, hbl, v, hv, hc⟩ := hb k hlt
    have hi : (k : Int) < (n : Int) := by omega
    have hr : v % m < m := Nat.mod_lt _ (by omega)
    have hm0 : ¬ ((m : Int) = 0) := by omega
    have ht : Int.tmod (v : Int) (m : Int) = ((v % m : Nat) : Int) := by rw [Int.tmod_eq_emod_of_nonneg (by omega)]; rfl
    have hw : IntKind.i64.wrap ((v % m : Nat) : Int) = ((v % m : Nat) : Int) := IntWalk.i64_in _ ⟨by omega, by omega⟩
    have HR := keep hr
    clear hb hr hbl
    go_enter Try.func31, Try.ntmps31
    go_wp2_with fail
    go_ret
    exact ⟨⟨v % m, HR.out, by first | rfl | simp⟩, rfl⟩
  · have hi : ¬ ((k : Int) < (n : Int)) := by omega
    have hi2 : ((n : Int) ≤ (k : Int)) := by omega
    clear hb
    go_enter Try.func31, Try.ntmps31
    go_wp2_with fail
    go_ret
    exact ⟨⟨0, by omega, rfl⟩, rfl⟩

/-- Walls of halves are walls of eighths. -/
theorem half_word (r : Nat) (h : r ≤ 100) : wd single 1 (r : Int) = wd single 3 (4 * (r : Int)) := by
  have e := wd_up (f := single) fit_single binade_le_single (k := 1) (a := (r : Int)) 2 (by decide) (by show (r : Int).natAbs < 16777216; omega)
  rw [← e, Int.mul_comm]
  rfl
end Go.Proofs.Ytnmdgbnophclnaa
