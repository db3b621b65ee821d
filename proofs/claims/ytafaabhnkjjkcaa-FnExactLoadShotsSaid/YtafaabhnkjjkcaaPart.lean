/- Contracts: the particle of 24 bytes at a place, by the reference and by the program. -/
import Derived.Test.YtafaabhnkjjkcaaNumAt
import Derived.StillTailTactics
import Derived.Deep.RegionWith
namespace Go.Proofs.Ytafaabhnkjjkcaa
open Go.RowKit

/-- The cells of a particle. -/
def pCells (a b c d q m : Nat) : Array Value := #[.complex .f32 a b, .complex .f32 c d, .float .f32 q, .float .f32 m]
def pAt (s : ByteArray) (n : Nat) : Array Value := pCells (numAt s n) (numAt s (n + 4)) (numAt s (n + 8)) (numAt s (n + 12)) (numAt s (n + 16)) (numAt s (n + 20))
def okAt (s : ByteArray) (n : Nat) : Bool := validP (numAt s n) (numAt s (n + 4)) (numAt s (n + 8)) (numAt s (n + 12)) (numAt s (n + 16)) (numAt s (n + 20))

set_option maxHeartbeats 1000000 in
set_option maxRecDepth 100000 in
theorem l10Particle_any (s : ByteArray) (n : Nat) (w : World) (hs : s.size ≤ 1000000000000000) (h : n + 24 ≤ s.size) :
    Calls Try.prog 36 #[.string s, .int .i64 n] w fun e w' => e = .returned (.tuple #[.agg (pAt s n), .bool (okAt s n)]) ∧ Below w.heap.size w w' := by
  have e4 : ((n : Int) + 4).toNat = n + 4 := by omega
  have e8 : ((n : Int) + 8).toNat = n + 8 := by omega
  have e12 : ((n : Int) + 12).toNat = n + 12 := by omega
  have e16 : ((n : Int) + 16).toNat = n + 16 := by omega
  have e20 : ((n : Int) + 20).toNat = n + 20 := by omega
  unfold pAt okAt pCells
  go_enter Try.func36, Try.ntmps36
  go_wp2_with (go_at_call 67; refine (l10Number_at s _ _ hs (by omega) (by omega)).mono ?_; rintro e w' ⟨rfl, m', rfl⟩)
  go_region_with (go_at_call 68; refine (l02Particle_any (numAt s n) (numAt s (n + 4)) (numAt s (n + 8)) (numAt s (n + 12)) (numAt s (n + 16)) (numAt s (n + 20)) _ _ (by go_simp) (by go_simp) (by go_simp) (by go_simp)).mono ?_; rintro e w' ⟨rfl, m', rfl⟩)
  all_goals
    go_wp2
    go_returns
    exact ⟨rfl, by refine Below.drewN_of ?_ _; go_grown⟩
end Go.Proofs.Ytafaabhnkjjkcaa
