/- Contracts: ways between places of eighths. -/
import Derived.Test.YtnmdgbnophclnaaGe
namespace Go.Proofs.Ytnmdgbnophclnaa
open Go.RowKit Go.Sort Ieee

/-- The shorter way along a side of W. -/
def wayI (d : Int) (W : Nat) : Int := if 4 * (W : Int) < d then d - 8 * W else if d < -(4 * (W : Int)) then d + 8 * W else d

theorem side_facts (W : Nat) (h4 : 4 ≤ W) (h7 : W ≤ 7) : floatBits .quo .f32 (floatOfInt .f32 (W : Int)) 1073741824 = some (wd single 3 (4 * (W : Int))) ∧ Op.negFloat .f32 (wd single 3 (4 * (W : Int))) = wd single 3 (-(4 * (W : Int))) ∧ floatOfInt .f32 (W : Int) = wd single 3 (8 * (W : Int)) := by
  have hs : W = 4 ∨ W = 5 ∨ W = 6 ∨ W = 7 := by omega
  rcases hs with rfl | rfl | rfl | rfl <;> decide +kernel

set_option maxHeartbeats 1000000 in
theorem less_ok (x1 y1 x2 y2 : Int) (h1 : x1.natAbs ≤ 1000) (h2 : y1.natAbs ≤ 1000) (h3 : x2.natAbs ≤ 1000) (h4 : y2.natAbs ≤ 1000) (w : World) : Calls Try.prog 69 #[placeV x1 y1, placeV x2 y2] w fun e w' => e = .returned (placeV (x1 - x2) (y1 - y2)) ∧ w' = w := by
  have f1 := frun (fsub (k := 3) (a := x1) (b := x2) (by omega) (by omega) (by omega) (by omega))
  have f2 := frun (fsub (k := 3) (a := y1) (b := y2) (by omega) (by omega) (by omega) (by omega))
  clear h1 h2 h3 h4
  unfold placeV
  go_enter Try.func69, Try.ntmps69
  go_wp2_with fail
  go_ret
  exact ⟨rfl, rfl⟩

end Go.Proofs.Ytnmdgbnophclnaa
