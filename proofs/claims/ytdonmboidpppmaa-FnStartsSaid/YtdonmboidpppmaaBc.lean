/- Contracts: TurnOf, KickOf, PushSpeed, PullOf of a valid particle, by the chains of operations. No condition but that the chains run and end in numbers. -/
import Derived.Test.YtdonmboidpppmaaBb
import Derived.Deep.RegionHeld
namespace Go.Proofs.Ytdonmboidpppmaa
open Go.RowKit Go.Sort Ieee
set_option linter.unusedSimpArgs false
set_option linter.unusedVariables false

theorem bfin {b : Nat} (h : Nm single b) : fin .f32 b = true := by
  obtain ⟨s, m, i, h⟩ := h
  unfold fin
  rw [show FloatKind.f32.format = single from rfl, h]
theorem toBN {F : FuncId} {as0 : Array Value} {v : Value} {w : World} (h : Calls Try.prog F as0 w fun e w' => e = .returned v ∧ ∃ m, w' = w.drewN m) : Calls Try.prog F as0 w fun e w' => e = .returned v ∧ Below w.heap.size w w' := h.mono fun _ _ ⟨he, m, hw⟩ => ⟨he, by rw [hw]; exact Below.drewN_of (Below.refl _ _) m⟩
theorem bIsF (z : Nat) (h : Nm single z) (w : World) : Calls Try.prog 35 #[.float .f32 z] w fun e w' => e = .returned (.bool true) ∧ ∃ m, w' = w.drewN m := by
  have F := IsFinite32 z w
  rw [bfin h] at F
  exact F
theorem bIsC (a b : Nat) (ha : Nm single a) (hb : Nm single b) (w : World) : Calls Try.prog 47 #[.complex .f32 a b] w fun e w' => e = .returned (.bool true) ∧ ∃ m, w' = w.drewN m := by
  have F := IsFiniteC a b w
  have hf : finC a b = true := by unfold finC; rw [bfin ha, bfin hb]; rfl
  rw [hf] at F
  exact F
theorem bfiniteC (a b : Nat) (ha : Nm single a) (hb : Nm single b) (w : World) : Calls Try.prog 44 #[.complex .f32 a b, .bool true] w fun e w' => e = .returned (.tuple #[.complex .f32 a b, .bool true]) ∧ ∃ m, w' = w.drewN m := by
  have F := IsFiniteC a b
  have hf : finC a b = true := by unfold finC; rw [bfin ha, bfin hb]; rfl
  rw [hf] at F
  have F := keep F
  clear ha hb hf
  go_enter Try.func44, Try.ntmps44
  go_wp2_with (go_at_call 47; refine (F.out _).mono ?_; rintro e w' ⟨rfl, m', rfl⟩)
  go_ret2
  exact ⟨rfl, _, rfl⟩
theorem bfiniteC_no (a b : Nat) (w : World) (h : finC a b = false) : Calls Try.prog 44 #[.complex .f32 a b, .bool true] w fun e w' => e = .returned (.tuple #[.complex .f32 0 0, .bool false]) ∧ ∃ m, w' = w.drewN m := by
  have F := IsFiniteC a b
  rw [h] at F
  have F := keep F
  clear h
  go_enter Try.func44, Try.ntmps44
  go_wp2_with (go_at_call 47; refine (F.out _).mono ?_; rintro e w' ⟨rfl, m', rfl⟩)
  go_ret2
  exact ⟨rfl, _, rfl⟩
theorem bvalid {a b c d q m : Nat} (ha : Nm single a) (hb : Nm single b) (hc : Nm single c) (hd : Nm single d) (hq : Nm single q) (hm : Nm single m) (hp : 0 < V single m) : validP a b c d q m = true := by
  unfold validP finC
  rw [bfin ha, bfin hb, bfin hc, bfin hd, bfin hq, bfin hm]
  have z : Nm single 0 := ⟨false, 0, -149, by decide +kernel⟩
  have vz : V single 0 = 0 := by decide +kernel
  have h := V_gt hm z
  rw [vz] at h
  rw [show FloatKind.f32.format.order m 0 = single.order m 0 from rfl, h]
  simpa using hp
theorem bAreFinite (s t : Nat) (hs : Nm single s) (ht : Nm single t) (b : Nat) (w : World) (h : Has w b 32 #[.float .f32 s, .float .f32 t]) : Calls Try.prog 36 #[.slice (some ⟨b, 0, none⟩) 2 2] w fun e w' => e = .returned (.bool true) ∧ ∃ n, w' = w.drewN n := by
  have H := areFinite_two s t b 2 w (h.cells 0) (h.cells 1)
  rw [bfin hs, bfin ht] at H
  exact H

/-- A particle whose words are numbers, with a mass above nothing. -/
structure PNm (x y u v q m : Nat) : Prop where
  p : 0 < V single m
  hx : Nm single x
  hy : Nm single y
  hu : Nm single u
  hv : Nm single v
  hq : Nm single q
  hm : Nm single m
theorem PNm.valid {x y u v q m : Nat} (h : PNm x y u v q m) (w : World) : Calls Try.prog 46 #[pAgg x y u v q m] w fun e w' => e = .returned (.bool true) ∧ Below w.heap.size w w' := by
  have H := ValidParticle_any x y u v q m w
  rw [bvalid h.hx h.hy h.hu h.hv h.hq h.hm h.p] at H
  exact H
end Go.Proofs.Ytdonmboidpppmaa
