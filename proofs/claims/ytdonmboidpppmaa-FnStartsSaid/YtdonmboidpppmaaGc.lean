/- Contract: math.Floor of a number. -/
import Derived.Test.YtdonmboidpppmaaLeaf
import Derived.Test.YtdonmboidpppmaaFw
import Derived.Laws.Externs
import Derived.Outline
namespace Go.Proofs.Ytdonmboidpppmaa
open Go.RowKit Ieee

theorem to_int_arg (motive : Array Value → Sort 1) (x : Nat) (h1 : (x : Nat) → motive #[Value.float FloatKind.f64 x]) (h2 : (x : Array Value) → motive x) : Extern.MathFloor.toIntegral.match_2 motive #[.float .f64 x] h1 h2 = h1 x := rfl
theorem run_floor (q : Nat) (s : Bool) (m : Nat) (i : Int) (h : double.read q = .number s m i) (w : World) :
    (callFunc 89 #[.float .f64 q]).run Try.prog w = .ok (.value (.float .f64 (floorB q))) w := by
  rw [run_callFunc_extern (e := Extern.MathFloor.toIntegral "math.archFloor" .down) Try.func89 (by kernel_rfl) (by kernel_rfl) (by kernel_rfl) (by kernel_rfl)]
  have hd : FloatKind.f64.decode q = .number s m i := h
  have e : Extern.MathFloor.toIntegral "math.archFloor" .down #[.float .f64 q] = pure (.float .f64 (floorB q)) := by
    delta Extern.MathFloor.toIntegral
    rw [to_int_arg]
    rw [hd]
    unfold floorB
    rw [h]
    rfl
  rw [e]
  rfl

set_option maxHeartbeats 1000000 in
theorem Floor_any (q : Nat) (s : Bool) (m : Nat) (i : Int) (h : double.read q = .number s m i) (w : World) :
    Calls Try.prog 88 #[.float .f64 q] w fun e w' => e = .returned (.float .f64 (floorB q)) ∧ w' = w := by
  have hr := run_floor q s m i h
  have HR := keep h
  clear h
  go_enter Try.func88, Try.ntmps88
  go_wp2_with fail
  go_ret
  exact ⟨rfl, rfl⟩
end Go.Proofs.Ytdonmboidpppmaa
