/- Contracts: valid particles. -/
import Derived.Test.YtldnldgndjbhfaaDoorBytes
namespace Go.Proofs.YtldnldgndjbhfaaDoor
open Go.RowKit

theorem all_take_succ (p : Nat → Bool) (xs : List Nat) (k : Nat) (h : k < xs.length) : (xs.take (k + 1)).all p = ((xs.take k).all p && p (xs.getD k 0)) := by
  rw [List.take_succ_eq_append_getElem h, List.all_append]
  simp [List.getD, h]

theorem all_take_drop (p : Nat → Bool) (xs : List Nat) (k : Nat) : xs.all p = ((xs.take k).all p && (xs.drop k).all p) := by
  rw [← List.all_append, List.take_append_drop]

def validP (a b c d q m : Nat) : Bool := finC a b && finC c d && (fin .f32 q && fin .f32 m) && (FloatKind.f32.format.order m 0 == some .gt)

set_option maxHeartbeats 400000 in
theorem l02Particle_at (a b c d q m bl off : Nat) (w : World) (c0 : w.cell? ⟨bl, off, none⟩ = some (.complex .f32 a b)) (c1 : w.cell? ⟨bl, off + 1, none⟩ = some (.complex .f32 c d)) (c2 : w.cell? ⟨bl, off + 2, none⟩ = some (.float .f32 q)) (c3 : w.cell? ⟨bl, off + 3, none⟩ = some (.float .f32 m)) :
    Calls Tryd.prog 29 #[.pointer (some ⟨bl, off, none⟩)] w fun e w' => e = .returned (.bool (validP a b c d q m)) ∧ ∃ n, w' = w.drewN n := by
  unfold validP
  cases h1 : finC a b
  · go_enter Tryd.func29, Tryd.ntmps29
    go_wp2_with (first | (go_at_call 46; refine (l01CFinite _ _ _).mono ?_; rintro e w' ⟨rfl, m', rfl⟩))
    go_ret
    exact ⟨by simp, _, rfl⟩
  · cases h2 : finC c d
    · go_enter Tryd.func29, Tryd.ntmps29
      go_wp2_with (first | (go_at_call 46; refine (l01CFinite _ _ _).mono ?_; rintro e w' ⟨rfl, m', rfl⟩))
      go_ret
      exact ⟨by simp, _, rfl⟩
    · cases h3 : fin .f32 q
      · go_enter Tryd.func29, Tryd.ntmps29
        go_wp2_with (first | (go_at_call 46; refine (l01CFinite _ _ _).mono ?_; rintro e w' ⟨rfl, m', rfl⟩) | (go_at_call 47; refine (l01Finite32 _ _).mono ?_; rintro e w' ⟨rfl, m', rfl⟩))
        go_ret
        exact ⟨by simp, _, rfl⟩
      · cases h4 : fin .f32 m
        all_goals
          go_enter Tryd.func29, Tryd.ntmps29
          go_wp2_with (first | (go_at_call 46; refine (l01CFinite _ _ _).mono ?_; rintro e w' ⟨rfl, m', rfl⟩) | (go_at_call 47; refine (l01Finite32 _ _).mono ?_; rintro e w' ⟨rfl, m', rfl⟩))
          go_ret
          exact ⟨by simp, _, rfl⟩

theorem l02Particle_any (a b c d q m bl : Nat) (w : World) (c0 : w.cell? ⟨bl, 0, none⟩ = some (.complex .f32 a b)) (c1 : w.cell? ⟨bl, 1, none⟩ = some (.complex .f32 c d)) (c2 : w.cell? ⟨bl, 2, none⟩ = some (.float .f32 q)) (c3 : w.cell? ⟨bl, 3, none⟩ = some (.float .f32 m)) :
    Calls Tryd.prog 29 #[.pointer (some ⟨bl, 0, none⟩)] w fun e w' => e = .returned (.bool (validP a b c d q m)) ∧ ∃ n, w' = w.drewN n :=
  l02Particle_at a b c d q m bl 0 w c0 c1 c2 c3
/-- The cells of a particle. -/
def pCells (a b c d q m : Nat) : Array Value := #[.complex .f32 a b, .complex .f32 c d, .float .f32 q, .float .f32 m]
end Go.Proofs.YtldnldgndjbhfaaDoor
