/- Contracts: TurnOf, PushSpeed, KickOf, PullOf of a valid particle, by the chains of operations. No condition but that the chains run and end in numbers. -/
import Derived.Test.YtdonmboidpppmaaBc
namespace Go.Proofs.Ytdonmboidpppmaa
open Go.RowKit Go.Sort Ieee
set_option linter.unusedSimpArgs false
set_option linter.unusedVariables false

set_option maxHeartbeats 4000000 in
theorem bPushSpeed {x y u v q m fx fy mag tick re im : Nat} (P : PNm x y u v q m) (nfx : Nm single fx) (nfy : Nm single fy) (nmag : Nm single mag) (ntick : Nm single tick) (h : PushW u v q m fx fy mag tick re im) (nre : Nm single re) (nim : Nm single im) (w : World) : Calls Try.prog 12 #[pAgg x y u v q m, .complex .f32 fx fy, .float .f32 mag, .float .f32 tick] w fun e w' => e = .returned (.tuple #[.complex .f32 re im, .bool true]) ∧ Below w.heap.size w w' := by
  have TU := keep (fun w => bpush x y h w)
  have VA := keep (fun w => P.valid w)
  have IC := keep (fun w => toBN (bIsC fx fy nfx nfy w))
  have AF := keep (fun b w h => toBN (bAreFinite mag tick nmag ntick b w h))
  have FC := keep (fun w => toBN (bfiniteC re im nre nim w))
  have B0 := keep ((Below.refl w.heap.size w).alloc (Nat.le_refl _) (.cells #[.complex .f32 x y, .complex .f32 u v, .float .f32 q, .float .f32 m] 41))
  have H0 := keep (Has.made w 41 #[.complex .f32 x y, .complex .f32 u v, .float .f32 q, .float .f32 m])
  have P0 := (Has.made w 41 #[.complex .f32 x y, .complex .f32 u v, .float .f32 q, .float .f32 m]).cells
  unfold pAgg at *
  clear P nmag ntick h nre nim nfx nfy
  go_enter Try.func12, Try.ntmps12
  go_wp2_with fail
  have hsz : w.heap.size < (w.alloc (.cells #[.complex .f32 x y, .complex .f32 u v, .float .f32 q, .float .f32 m] 41)).heap.size := by rw [World.size_alloc]; omega
  generalize w.alloc (.cells #[.complex .f32 x y, .complex .f32 u v, .float .f32 q, .float .f32 m] 41) = W0 at *
  have SOF := keep (fun (wz : World) (hb : Below W0.heap.size W0 wz) => (show wz.cell? ⟨w.heap.size, 0, none⟩ = some (.complex .f32 x y) ∧ wz.cell? ⟨w.heap.size, 1, none⟩ = some (.complex .f32 u v) ∧ wz.cell? ⟨w.heap.size, 2, none⟩ = some (.float .f32 q) ∧ wz.cell? ⟨w.heap.size, 3, none⟩ = some (.float .f32 m) ∧ Below W0.heap.size W0 wz from ⟨(H0.out.after hb).cells 0, (H0.out.after hb).cells 1, (H0.out.after hb).cells 2, (H0.out.after hb).cells 3, hb⟩))
  have BOF := keep (fun (wz : World) (hs : wz.cell? ⟨w.heap.size, 0, none⟩ = some (.complex .f32 x y) ∧ wz.cell? ⟨w.heap.size, 1, none⟩ = some (.complex .f32 u v) ∧ wz.cell? ⟨w.heap.size, 2, none⟩ = some (.float .f32 q) ∧ wz.cell? ⟨w.heap.size, 3, none⟩ = some (.float .f32 m) ∧ Below W0.heap.size W0 wz) => hs.2.2.2.2)
  clear P0
  go_region_held (fun wz => wz.cell? ⟨w.heap.size, 0, none⟩ = some (.complex .f32 x y) ∧ wz.cell? ⟨w.heap.size, 1, none⟩ = some (.complex .f32 u v) ∧ wz.cell? ⟨w.heap.size, 2, none⟩ = some (.float .f32 q) ∧ wz.cell? ⟨w.heap.size, 3, none⟩ = some (.float .f32 m) ∧ Below W0.heap.size W0 wz)
    (first
      | (with_reducible exact SOF.out _ (Below.refl _ _))
      | (with_reducible exact SOF.out _ (Below.drew (Below.refl _ _)))
      | (with_reducible exact SOF.out _ ((BOF.out _ (by assumption)).trans (Below.mono (by assumption) (BOF.out _ (by assumption)).size)))
      | (with_reducible exact SOF.out _ ((BOF.out _ (by assumption)).alloc (BOF.out _ (by assumption)).size _)))
    (first
      | ((with_reducible refine (TU.out _).mono ?_)
         rintro e w3 ⟨rfl, hb3⟩
         try (with_reducible have HX := keep ((Has.made _ 32 #[.float .f32 mag, .float .f32 tick]).after hb3)))
      | ((with_reducible refine (VA.out _).mono ?_)
         rintro e w4 ⟨rfl, hb4⟩
         try (with_reducible have HX := keep ((Has.made _ 32 #[.float .f32 mag, .float .f32 tick]).after hb4)))
      | ((with_reducible refine (IC.out _).mono ?_)
         rintro e w5 ⟨rfl, hb5⟩
         try (with_reducible have HX := keep ((Has.made _ 32 #[.float .f32 mag, .float .f32 tick]).after hb5)))
      | ((refine (AF.out _ _ (by first | exact Has.made _ _ _ | exact HX.out)).mono ?_)
         rintro e w6 ⟨rfl, hb6⟩)
      | ((with_reducible refine (FC.out _).mono ?_)
         rintro e w7 ⟨rfl, hb7⟩
         try (with_reducible have HX := keep ((Has.made _ 32 #[.float .f32 mag, .float .f32 tick]).after hb7))))
  all_goals
    go_wp2_with fail
    go_ret2
    exact ⟨rfl, B0.out.trans ((BOF.out _ (by assumption)).mono B0.out.size)⟩

end Go.Proofs.Ytdonmboidpppmaa
