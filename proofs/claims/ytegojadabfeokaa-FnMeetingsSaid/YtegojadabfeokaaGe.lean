/- Contracts of the grid's own functions at places of eighths: valid grids, places, wrapped places, corners, indexes. -/
import Derived.Test.YtegojadabfeokaaGd
import Derived.Test.YtegojadabfeokaaFy
import Derived.Test.YtegojadabfeokaaWords
import Derived.Lib.QuietBelow
import Derived.Deep.QuietTactic
import Derived.BigQuiet
namespace Go.Proofs.Ytegojadabfeokaa
open Go.RowKit Go.Sort Ieee

theorem frun {op : BinOp} {k : FloatKind} {x y r : Nat} (h : floatBits op k x y = some r) : ∀ (t : TypeId) (w : World), (binOp op t (.float k x) (.float k y)).run Try.prog w = .ok (.float k r) w := fun t w => run_float_arith w op t k x y r h
theorem fadd {k : Nat} {a b : Int} (hk : k ≤ 100) (ha : a.natAbs < 16777216) (hb : b.natAbs < 16777216) (hn : (a + b).natAbs < 16777216) : floatBits .add .f32 (wd single k a) (wd single k b) = some (wd single k (a + b)) := add_wd fit_single binade_le_single (by show k + 23 ≤ 149; omega) ha hb hn
theorem fsub {k : Nat} {a b : Int} (hk : k ≤ 100) (ha : a.natAbs < 16777216) (hb : b.natAbs < 16777216) (hn : (a - b).natAbs < 16777216) : floatBits .sub .f32 (wd single k a) (wd single k b) = some (wd single k (a - b)) := sub_wd fit_single binade_le_single (by show k + 23 ≤ 149; omega) ha hb hn
theorem fmul {k l : Nat} {a b : Int} (ha0 : 0 ≤ a) (hb0 : 0 ≤ b) (hk : k ≤ 60) (hl : l ≤ 60) (ha : a.natAbs < 16777216) (hb : b.natAbs < 16777216) (hn : (a * b).natAbs < 16777216) : floatBits .mul .f32 (wd single k a) (wd single l b) = some (wd single (k + l) (a * b)) :=
  mul_wd fit_single binade_le_single ha0 hb0 (by show k + 23 ≤ 149; omega) (by show l + 23 ≤ 149; omega) (by show k + l + 23 ≤ 149; omega) ha hb hn
theorem forder {k : Nat} {a b : Int} (hk : k ≤ 100) (ha : a.natAbs < 16777216) (hb : b.natAbs < 16777216) : FloatKind.f32.format.order (wd single k a) (wd single k b) = some (compare a b) := order_wd fit_single (by show k + 23 ≤ 149; omega) ha hb
theorem fin_wd (k : Nat) (a : Int) (hk : k ≤ 100) (ha : a.natAbs < 16777216) : fin .f32 (wd single k a) = true := by
  obtain ⟨s, m, i, h⟩ := read_wd k a (by omega) ha
  unfold fin
  rw [show FloatKind.f32.format.read (wd single k a) = .number s m i from h]
/-- An integer as a number. -/
theorem ofInt_wd (n : Int) : floatOfInt .f32 n = wd single 0 n := rfl

def okGrid (a b : Int) : Bool := (decide (4 ≤ a) && decide (a ≤ 16)) && (decide (4 ≤ b) && decide (b ≤ 16))
/-- A grid of the laws. -/
def Sides (W H : Nat) : Prop := (4 ≤ W ∧ W ≤ 7) ∧ (4 ≤ H ∧ H ≤ 7)
theorem Sides.ok {W H : Nat} (h : Sides W H) : okGrid W H = true := by
  obtain ⟨⟨h1, h2⟩, h3, h4⟩ := h
  unfold okGrid
  simp only [Bool.and_eq_true, decide_eq_true_eq]
  omega
def gridV (W H : Nat) : Value := .agg #[.int .i64 W, .int .i64 H]
/-- A place of eighths. -/
def PlaceOk (x y : Int) : Prop := (-112 ≤ x ∧ x ≤ 247) ∧ (-112 ≤ y ∧ y ≤ 247)
def placeV (x y : Int) : Value := .complex .f32 (wd single 3 x) (wd single 3 y)
theorem PlaceOk.fin {x y : Int} (h : PlaceOk x y) : finC (wd single 3 x) (wd single 3 y) = true := by
  obtain ⟨⟨h1, h2⟩, h3, h4⟩ := h
  unfold finC
  rw [fin_wd 3 x (by omega) (by omega), fin_wd 3 y (by omega) (by omega)]
  rfl
/-- The remainder of a place in a side. -/
def md (x : Int) (W : Nat) : Int := x % (8 * (W : Int))
theorem md_bounds (x : Int) (W : Nat) (h : 4 ≤ W) : 0 ≤ md x W ∧ md x W < 8 * (W : Int) := ⟨Int.emod_nonneg x (by omega), Int.emod_lt_of_pos x (by omega)⟩

theorem whole_all : ∀ n : Fin 64, floatToIntVal .f32 (wd single 3 (n.val : Int)) .i64 = some ((n.val : Int) / 8) := by decide +kernel
theorem run_whole (n : Int) (h0 : 0 ≤ n) (h1 : n < 64) (w : World) : (convert 25 2 (.float .f32 (wd single 3 n))).run Try.prog w = .ok (.int .i64 (n / 8)) w := by
  have h := whole_all ⟨n.toNat, by omega⟩
  rw [show ((n.toNat : Nat) : Int) = n by omega] at h
  exact run_convert_float_int w 25 2 .f32 .i64 _ (n / 8) (by rw [Try.underlying25]; rfl) Try.underlying2 h

/-- The index of a corner, around the edges. -/
def idx (W H : Nat) (x y : Int) : Int := x % (W : Int) + W * (y % (H : Int))
end Go.Proofs.Ytegojadabfeokaa
