/- Contracts: valid particles. -/
import Derived.Test.YtcmppipilihmkaaGreatDoorBytes
namespace Go.Proofs.YtcmppipilihmkaaGreatDoor
open Go.RowKit

theorem all_take_succ (p : Nat → Bool) (xs : List Nat) (k : Nat) (h : k < xs.length) : (xs.take (k + 1)).all p = ((xs.take k).all p && p (xs.getD k 0)) := by
  rw [List.take_succ_eq_append_getElem h, List.all_append]
  simp [List.getD, h]

theorem all_take_drop (p : Nat → Bool) (xs : List Nat) (k : Nat) : xs.all p = ((xs.take k).all p && (xs.drop k).all p) := by
  rw [← List.all_append, List.take_append_drop]

set_option maxHeartbeats 400000 in
theorem areFinite_any (xs : List Nat) (b off c : Nat) (w : World) (hn : xs.length ≤ 1000000) (hc : ∀ i, i < xs.length → w.cell? ⟨b, off + i, none⟩ = some (.float .f32 (xs.getD i 0))) :
    Calls Tryz.prog 72 #[.slice (some ⟨b, off, none⟩) xs.length c] w fun e w' => e = .returned (.bool (xs.all (fin .f32))) ∧ ∃ m, w' = w.drewN m := by
  have Hc := keep hc
  clear hc
  go_enter Tryz.func72, Tryz.ntmps72
  go_wp2_with fail
  go_loopw [7] (fun i wr => ∃ k m : Nat, k ≤ xs.length ∧ i = .int .i64 k ∧ wr = w.drewN m ∧ Kept ((xs.take k).all (fin .f32) = true)) (fun i _ => xs.length - (intOf i).toNat)
  case atStart => exact ⟨0, 0, Nat.zero_le _, rfl, rfl, keep (by simp)⟩
  case round =>
    obtain ⟨k, m, hk, rfl, rfl, hall⟩ := hrel
    by_cases hlt : k < xs.length
    · have hcell := Hc.out k hlt
      have hs := keep (all_take_succ (fin .f32) xs k hlt)
      generalize hx : xs.getD k 0 = x at *
      have Hx := keep hx
      clear hx
      cases hf : fin .f32 x
      · go_wp2_with (go_at_call 61; refine (IsFinite32 _ _).mono ?_; rintro e w' ⟨rfl, m', rfl⟩)
        go_ret
        refine ⟨?_, _, rfl⟩
        have e : xs.all (fin .f32) = false := by
          have h2 := all_take_drop (fin .f32) xs (k + 1)
          rw [hs.out, hf] at h2
          simpa using h2
        rw [e]; rfl
      · go_wp2_with (go_at_call 61; refine (IsFinite32 _ _).mono ?_; rintro e w' ⟨rfl, m', rfl⟩)
        go_roundw
        case rel => exact ⟨k + 1, _, by omega, by go_num, rfl, keep (by rw [hs.out, hall.out, hf]; rfl)⟩
        case measure => simp [intOf]; omega
    · go_wp2
      go_ret
      refine ⟨?_, _, rfl⟩
      have e : xs.all (fin .f32) = true := by
        have h2 := hall.out
        rwa [List.take_of_length_le (by omega)] at h2
      rw [e]; rfl

theorem areFinite_two (q m b c : Nat) (w : World) (h0 : w.cell? ⟨b, 0, none⟩ = some (.float .f32 q)) (h1 : w.cell? ⟨b, 1, none⟩ = some (.float .f32 m)) :
    Calls Tryz.prog 72 #[.slice (some ⟨b, 0, none⟩) 2 c] w fun e w' => e = .returned (.bool (fin .f32 q && fin .f32 m)) ∧ ∃ n, w' = w.drewN n :=
  (areFinite_any [q, m] b 0 c w (by simp) (fun i hi => by
    have h2 : i < 2 := by simpa using hi
    have h3 : i = 0 ∨ i = 1 := by omega
    rcases h3 with rfl | rfl
    · simpa using h0
    · simpa using h1)).mono fun e w' ⟨he, hw⟩ => ⟨by simpa using he, hw⟩

def validP (a b c d q m : Nat) : Bool := finC a b && finC c d && (fin .f32 q && fin .f32 m) && (FloatKind.f32.format.order m 0 == some .gt)

/-- The cells of a particle. -/
def pCells (a b c d q m : Nat) : Array Value := #[.complex .f32 a b, .complex .f32 c d, .float .f32 q, .float .f32 m]
end Go.Proofs.YtcmppipilihmkaaGreatDoor
