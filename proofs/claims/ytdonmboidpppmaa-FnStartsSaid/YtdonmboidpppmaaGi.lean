/- Contracts: the exported functions on places; a drawn place; equal numbers. -/
import Derived.Test.YtdonmboidpppmaaGh
import Derived.Test.YtdonmboidpppmaaGg
import Derived.Outline
namespace Go.Proofs.Ytdonmboidpppmaa
open Go.RowKit Go.Sort Ieee

def cornersA (W H : Nat) (x y : Int) : Array Value := #[.int .i64 (idx W H x y), .int .i64 (idx W H (x + 1) y), .int .i64 (idx W H x (y + 1)), .int .i64 (idx W H (x + 1) (y + 1))]
def sharesA (f h : Int) : Array Value := #[.float .f32 (wd single 6 ((8 - f) * (8 - h))), .float .f32 (wd single 6 (f * (8 - h))), .float .f32 (wd single 6 ((8 - f) * h)), .float .f32 (wd single 6 (f * h))]

set_option maxHeartbeats 1000000 in
theorem WrapPlace_ok (W H : Nat) (h : Sides W H) (x y : Int) (hp : PlaceOk x y) (w : World) : Calls Try.prog 75 #[gridV W H, placeV x y] w fun e w' => e = .returned (.tuple #[placeV (md x W) (md y H), .bool true]) ∧ Below w.heap.size w w' := by
  have A := keep (fun w => isPlace_ok W H h _ _ hp.fin w)
  have L := keep (fun w => wrapPlace_ok W H h x y hp w)
  have P := keep (Has.made w 25 #[.int .i64 W, .int .i64 H])
  clear hp h
  unfold gridV placeV at *
  go_enter Try.func75, Try.ntmps75
  go_wp2_with fail
  refine (A.out _).mono ?_
  rintro e w1 ⟨rfl, hb⟩
  have hB := ((Below.refl w.heap.size w).alloc (Nat.le_refl _) (.cells #[.int .i64 W, .int .i64 H] 25)).trans (hb.mono (by simp))
  have p1 := P.out.after hb
  have c1 := p1.cells
  clear hb
  go_wp2_with fail
  refine (L.out _).mono ?_
  rintro e w2 ⟨rfl, hb⟩
  have hB2 := hB.trans (hb.mono hB.size)
  clear hb c1
  go_wp2_with fail
  go_ret2
  exact ⟨rfl, hB2⟩

end Go.Proofs.Ytdonmboidpppmaa
