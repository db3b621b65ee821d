/- Contracts: valid particles. -/
import Derived.Test.YtdkjaffnkgbcnaaGreatDoorBytes
namespace Go.Proofs.YtdkjaffnkgbcnaaGreatDoor
open Go.RowKit

theorem all_take_succ (p : Nat → Bool) (xs : List Nat) (k : Nat) (h : k < xs.length) : (xs.take (k + 1)).all p = ((xs.take k).all p && p (xs.getD k 0)) := by
  rw [List.take_succ_eq_append_getElem h, List.all_append]
  simp [List.getD, h]

theorem all_take_drop (p : Nat → Bool) (xs : List Nat) (k : Nat) : xs.all p = ((xs.take k).all p && (xs.drop k).all p) := by
  rw [← List.all_append, List.take_append_drop]

set_option maxHeartbeats 400000 in
theorem areFinite_any (xs : List Nat) (b off c : Nat) (w : World) (hn : xs.length ≤ 1000000) (hc : ∀ i, i < xs.length → w.cell? ⟨b, off + i, none⟩ = some (.float .f32 (xs.getD i 0))) :
    Calls Tryz.prog 36 #[.slice (some ⟨b, off, none⟩) xs.length c] w fun e w' => e = .returned (.bool (xs.all (fin .f32))) ∧ ∃ m, w' = w.drewN m := by
  have Hc := keep hc
  clear hc
  go_enter Tryz.func36, Tryz.ntmps36
  go_wp2_with fail
  go_loopw [7] (fun i wr => ∃ k m : Nat, k ≤ xs.length ∧ i = .int .i64 k ∧ wr = w.drewN m ∧ Kept ((xs.take k).all (fin .f32) = true)) (fun i _ => xs.length - (intOf i).toNat)
  case atStart => exact ⟨0, 0, Nat.zero_le _, rfl, rfl, keep (by simp)⟩
  case round =>
    obtain ⟨k, m, hk, rfl, rfl, hall⟩ := hrel
    by_cases hlt : k < xs.length
    · have hcell := Hc.out k hlt
      have hs := keep (all_take_succ (fin .f32) xs k hlt)
      generalize hx : xs.getD k 0 = x at *
      have Hx := keep hx
      clear hx
      cases hf : fin .f32 x
      · go_wp2_with (go_at_call 60; refine (IsFinite32 _ _).mono ?_; rintro e w' ⟨rfl, m', rfl⟩)
        go_ret
        refine ⟨?_, _, rfl⟩
        have e : xs.all (fin .f32) = false := by
          have h2 := all_take_drop (fin .f32) xs (k + 1)
          rw [hs.out, hf] at h2
          simpa using h2
        rw [e]; rfl
      · go_wp2_with (go_at_call 60; refine (IsFinite32 _ _).mono ?_; rintro e w' ⟨rfl, m', rfl⟩)
        go_roundw
        case rel => exact ⟨k + 1, _, by omega, by go_num, rfl, keep (by rw [hs.out, hall.out, hf]; rfl)⟩
        case measure => simp [intOf]; omega
    · go_wp2
      go_ret
      refine ⟨?_, _, rfl⟩
      have e : xs.all (fin .f32) = true := by
        have h2 := hall.out
        rwa [List.take_of_length_le (by omega)] at h2
      rw [e]; rfl

theorem areFinite_two (q m b c : Nat) (w : World) (h0 : w.cell? ⟨b, 0, none⟩ = some (.float .f32 q)) (h1 : w.cell? ⟨b, 1, none⟩ = some (.float .f32 m)) :
    Calls Tryz.prog 36 #[.slice (some ⟨b, 0, none⟩) 2 c] w fun e w' => e = .returned (.bool (fin .f32 q && fin .f32 m)) ∧ ∃ n, w' = w.drewN n :=
  (areFinite_any [q, m] b 0 c w (by simp) (fun i hi => by
    have h2 : i < 2 := by simpa using hi
    have h3 : i = 0 ∨ i = 1 := by omega
    rcases h3 with rfl | rfl
    · simpa using h0
    · simpa using h1)).mono fun e w' ⟨he, hw⟩ => ⟨by simpa using he, hw⟩

def validP (a b c d q m : Nat) : Bool := finC a b && finC c d && (fin .f32 q && fin .f32 m) && (FloatKind.f32.format.order m 0 == some .gt)

set_option maxHeartbeats 400000 in
theorem ValidParticle_any (a b c d q m : Nat) (w : World) :
    Calls Tryz.prog 33 #[.agg #[.complex .f32 a b, .complex .f32 c d, .float .f32 q, .float .f32 m]] w fun e w' => e = .returned (.bool (validP a b c d q m)) ∧ Below w.heap.size w w' := by
  unfold validP
  cases h1 : finC a b
  · go_enter Tryz.func33, Tryz.ntmps33
    go_wp2_with (first | (go_at_call 56; refine (IsFiniteC _ _ _).mono ?_; rintro e w' ⟨rfl, m', rfl⟩))
    go_ret
    exact ⟨by simp, by refine Below.drewN_of ?_ _; go_grown⟩
  · cases h2 : finC c d
    · go_enter Tryz.func33, Tryz.ntmps33
      go_wp2_with (first | (go_at_call 56; refine (IsFiniteC _ _ _).mono ?_; rintro e w' ⟨rfl, m', rfl⟩))
      go_ret
      exact ⟨by simp, by refine Below.drewN_of ?_ _; go_grown⟩
    · go_enter Tryz.func33, Tryz.ntmps33
      go_wp2_with (first | (go_at_call 56; refine (IsFiniteC _ _ _).mono ?_; rintro e w' ⟨rfl, m', rfl⟩))
      have hA := areFinite_two q m (w.heap.size + 1) 2
      cases h3 : (fin .f32 q && fin .f32 m)
      all_goals
        rw [h3] at hA
        have HA := keep hA
        clear hA
        go_wp2_with (go_at_call 36; refine (HA.out _ (by go_simp) (by go_simp)).mono ?_; rintro e w' ⟨rfl, m', rfl⟩)
        go_ret
        exact ⟨by rw [h3]; simp, by refine Below.drewN_of ?_ _; go_grown⟩

set_option maxHeartbeats 400000 in
theorem l02Particle_at (a b c d q m bl off : Nat) (w : World) (c0 : w.cell? ⟨bl, off, none⟩ = some (.complex .f32 a b)) (c1 : w.cell? ⟨bl, off + 1, none⟩ = some (.complex .f32 c d)) (c2 : w.cell? ⟨bl, off + 2, none⟩ = some (.float .f32 q)) (c3 : w.cell? ⟨bl, off + 3, none⟩ = some (.float .f32 m)) :
    Calls Tryz.prog 42 #[.pointer (some ⟨bl, off, none⟩)] w fun e w' => e = .returned (.bool (validP a b c d q m)) ∧ ∃ n, w' = w.drewN n := by
  unfold validP
  cases h1 : finC a b
  · go_enter Tryz.func42, Tryz.ntmps42
    go_wp2_with (first | (go_at_call 66; refine (l01CFinite _ _ _).mono ?_; rintro e w' ⟨rfl, m', rfl⟩))
    go_ret
    exact ⟨by simp, _, rfl⟩
  · cases h2 : finC c d
    · go_enter Tryz.func42, Tryz.ntmps42
      go_wp2_with (first | (go_at_call 66; refine (l01CFinite _ _ _).mono ?_; rintro e w' ⟨rfl, m', rfl⟩))
      go_ret
      exact ⟨by simp, _, rfl⟩
    · cases h3 : fin .f32 q
      · go_enter Tryz.func42, Tryz.ntmps42
        go_wp2_with (first | (go_at_call 66; refine (l01CFinite _ _ _).mono ?_; rintro e w' ⟨rfl, m', rfl⟩) | (go_at_call 67; refine (l01Finite32 _ _).mono ?_; rintro e w' ⟨rfl, m', rfl⟩))
        go_ret
        exact ⟨by simp, _, rfl⟩
      · cases h4 : fin .f32 m
        all_goals
          go_enter Tryz.func42, Tryz.ntmps42
          go_wp2_with (first | (go_at_call 66; refine (l01CFinite _ _ _).mono ?_; rintro e w' ⟨rfl, m', rfl⟩) | (go_at_call 67; refine (l01Finite32 _ _).mono ?_; rintro e w' ⟨rfl, m', rfl⟩))
          go_ret
          exact ⟨by simp, _, rfl⟩

theorem l02Particle_any (a b c d q m bl : Nat) (w : World) (c0 : w.cell? ⟨bl, 0, none⟩ = some (.complex .f32 a b)) (c1 : w.cell? ⟨bl, 1, none⟩ = some (.complex .f32 c d)) (c2 : w.cell? ⟨bl, 2, none⟩ = some (.float .f32 q)) (c3 : w.cell? ⟨bl, 3, none⟩ = some (.float .f32 m)) :
    Calls Tryz.prog 42 #[.pointer (some ⟨bl, 0, none⟩)] w fun e w' => e = .returned (.bool (validP a b c d q m)) ∧ ∃ n, w' = w.drewN n :=
  l02Particle_at a b c d q m bl 0 w c0 c1 c2 c3
/-- The cells of a particle. -/
def pCells (a b c d q m : Nat) : Array Value := #[.complex .f32 a b, .complex .f32 c d, .float .f32 q, .float .f32 m]
end Go.Proofs.YtdkjaffnkgbcnaaGreatDoor
