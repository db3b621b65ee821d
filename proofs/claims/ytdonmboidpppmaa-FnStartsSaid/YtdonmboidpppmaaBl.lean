/- Plain: the numbers that a law is given stand within their bounds; bytes stay. -/
import Derived.Test.YtdonmboidpppmaaBj
import Derived.Test.YtdonmboidpppmaaGb
namespace Go.Proofs.Ytdonmboidpppmaa
open Go.RowKit Go.Sort Ieee
set_option linter.unusedVariables false

theorem baft {w w' : World} {a : Option Addr} {n : Nat} (h : Bytes w a n) (hb : Below w.heap.size w w') : Bytes w' a n :=
  h.later hb (fun b o e hn => by
    obtain ⟨b', o', e', hl, _⟩ := h 0 hn
    rw [e] at e'
    injection e' with e'
    injection e' with e'
    omega)
theorem p2_of (k : Nat) (hk : k ≤ 3) : p2 (-((1 : Nat) : Int)) = 1 / 2 ∧ p2 (-((2 : Nat) : Int)) = 1 / 4 ∧ p2 (-((3 : Nat) : Int)) = 1 / 8 := by decide +kernel
theorem wd8 (n : Int) (h0 : -200 ≤ n) (h1 : n ≤ 200) : Nm single (wd single 3 n) ∧ V single (wd single 3 n) = (n : Rat) / 8 := by
  obtain ⟨a, b⟩ := V_wd (f := single) fit_single 3 n (by decide) (by show n.natAbs < 16777216; omega)
  refine ⟨a, ?_⟩
  rw [b, (p2_of 0 (by omega)).2.2]; grind
theorem wd8_bd (n : Int) (K : Int) (h0 : -K ≤ n) (h1 : n ≤ K) (hK : K ≤ 200) : Cl (V single (wd single 3 n)) 0 ((K : Rat) / 8) := by
  rw [(wd8 n (by omega) (by omega)).2]
  have a := Rat.intCast_le_intCast.2 h0
  have b := Rat.intCast_le_intCast.2 h1
  rw [Rat.intCast_neg] at a
  unfold Cl
  constructor <;> grind
theorem pin_of (p : GP) (hp : p.ok) (mg tk fx fy : Int) (h1 : -8 ≤ mg ∧ mg ≤ 8) (h2 : -8 ≤ tk ∧ tk ≤ 8) (h3 : -64 ≤ fx ∧ fx ≤ 191) (h4 : -64 ≤ fy ∧ fy ≤ 191) :
    PIn (wd single 3 p.x) (wd single 3 p.y) (wd single 3 p.u) (wd single 3 p.v) (wd single 1 p.q) (wd single 2 p.m) (wd single 3 mg) (wd single 3 tk) (wd single 3 fx) (wd single 3 fy) := by
  obtain ⟨⟨x0, x1⟩, ⟨y0, y1⟩, ⟨u0, u1⟩, ⟨v0, v1⟩, ⟨q0, q1⟩, ⟨m0, m1⟩⟩ := hp
  obtain ⟨nq, vq⟩ := V_wd (f := single) fit_single 1 p.q (by decide) (by show p.q.natAbs < 16777216; omega)
  obtain ⟨nm, vm⟩ := V_wd (f := single) fit_single 2 p.m (by decide) (by show p.m.natAbs < 16777216; omega)
  rw [(p2_of 0 (by omega)).1] at vq
  rw [(p2_of 0 (by omega)).2.1] at vm
  have qa := Rat.intCast_le_intCast.2 q0
  have qb := Rat.intCast_le_intCast.2 q1
  have ma := Rat.intCast_le_intCast.2 m0
  have mb := Rat.intCast_le_intCast.2 m1
  have e4 : ((-4 : Int) : Rat) = -4 := rfl
  have e4' : ((4 : Int) : Rat) = 4 := rfl
  have e1 : ((1 : Int) : Rat) = 1 := rfl
  have e8 : ((8 : Int) : Rat) = 8 := rfl
  have e192 : ((192 : Int) : Rat) = 192 := rfl
  rw [e4] at qa
  rw [e4'] at qb
  rw [e1] at ma
  rw [e8] at mb
  have b8 := fun (n : Int) (a : -8 ≤ n) (b : n ≤ 8) => (wd8_bd n 8 a b (by omega)).mono (e' := 1) (by rw [e8]; grind)
  have b24 := fun (n : Int) (a : -192 ≤ n) (b : n ≤ 192) => (wd8_bd n 192 a b (by omega)).mono (e' := 24) (by rw [e192]; grind)
  exact ⟨⟨by rw [vm]; grind, (wd8 _ (by omega) (by omega)).1, (wd8 _ (by omega) (by omega)).1, (wd8 _ (by omega) (by omega)).1, (wd8 _ (by omega) (by omega)).1, nq, nm⟩,
    b8 _ u0 u1, b8 _ v0 v1, by rw [vq]; unfold Cl; constructor <;> grind, by rw [vm]; grind, by rw [vm]; grind,
    (wd8 _ (by omega) (by omega)).1, b8 _ h1.1 h1.2, (wd8 _ (by omega) (by omega)).1, b8 _ h2.1 h2.2, (wd8 _ (by omega) (by omega)).1, (wd8 _ (by omega) (by omega)).1, b24 _ (by omega) (by omega), b24 _ (by omega) (by omega)⟩
theorem mag_cases (mg : Int) (h1 : -8 ≤ mg ∧ mg ≤ 8) : (wd single 3 mg = 0) ∨ ((1 / 8 ≤ V single (wd single 3 mg) ∨ V single (wd single 3 mg) ≤ -(1 / 8)) ∧ ¬ (FloatKind.f32.format.order (wd single 3 mg) 0 = some .eq)) := by
  by_cases h0 : mg = 0
  · exact .inl (by rw [h0, wd_zero])
  · right
    obtain ⟨n, v⟩ := wd8 mg (by omega) (by omega)
    have hv : 1 / 8 ≤ V single (wd single 3 mg) ∨ V single (wd single 3 mg) ≤ -(1 / 8) := by
      rw [v]
      rcases Int.lt_or_gt_of_ne h0 with h | h
      · have := Rat.intCast_le_intCast.2 (show mg ≤ -1 by omega)
        have e : ((-1 : Int) : Rat) = -1 := rfl
        rw [e] at this
        right; grind
      · have := Rat.intCast_le_intCast.2 (show 1 ≤ mg by omega)
        have e : ((1 : Int) : Rat) = 1 := rfl
        rw [e] at this
        left; grind
    refine ⟨hv, fun h => ?_⟩
    have z := nm_zero
    have o := order_V n z.1
    rw [show FloatKind.f32.format.order (wd single 3 mg) 0 = single.order (wd single 3 mg) 0 from rfl] at h
    rw [o, z.2] at h
    grind
end Go.Proofs.Ytdonmboidpppmaa
