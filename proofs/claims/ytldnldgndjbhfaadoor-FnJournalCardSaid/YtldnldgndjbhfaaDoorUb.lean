/- Contracts: bits of numbers and their eight digits. The table of trailing zeros is a premise. -/
import Derived.Test.YtldnldgndjbhfaaDoorUa
namespace Go.Proofs.YtldnldgndjbhfaaDoor
open Go.RowKit Go.Sort Ieee
set_option linter.unusedSimpArgs false

theorem run_frombits' (n : Int) (w : World) : (callFunc 66 #[.int .u32 n]).run Tryd.prog w = .ok (.value (.float .f32 n.toNat)) w :=
  (run_callFunc_extern Tryd.func66 (by kernel_rfl) (by kernel_rfl) (by kernel_rfl) (e := Extern.MathFloatBits.float32frombits) (by kernel_rfl) _ w).trans rfl
theorem run_bits' (n : Nat) (w : World) : (callFunc 55 #[.float .f32 n]).run Tryd.prog w = .ok (.value (.int .u32 n)) w :=
  (run_callFunc_extern Tryd.func55 (by kernel_rfl) (by kernel_rfl) (by kernel_rfl) (e := Extern.MathFloatBits.float32bits) (by kernel_rfl) _ w).trans rfl

theorem order_or (b : Nat) : FloatKind.f32.format.order b b = some .eq ∨ FloatKind.f32.format.order b b = none := by
  unfold Format.order
  cases FloatKind.f32.format.read b with
  | nan s p => exact .inr rfl
  | infinity s => left; cases s <;> rfl
  | number s m i =>
    left
    unfold Datum.order
    simp only
    rw [Int.compare_eq_eq.2 rfl]

/-- A number's bits as the program tells them: of what is no number one word alone. -/
def cb (b : Nat) : Nat := if FloatKind.f32.format.order b b = some .eq then b else 2143289344

set_option maxHeartbeats 1000000 in
theorem l01Bits_cb (b : Nat) (w : World) (hb : b < 4294967296) : Calls Tryd.prog 36 #[.float .f32 b] w fun e w' => e = .returned (.int .i64 (cb b : Int)) ∧ w' = w := by
  unfold cb
  have rb := run_bits' b
  have wb : IntKind.i64.wrap (b : Int) = (b : Int) := IntWalk.i64_in _ ⟨by omega, by omega⟩
  rcases order_or b with h | h
  · rw [if_pos h]
    go_enter Tryd.func36, Tryd.ntmps36
    go_wp2_with fail
    go_ret
    exact ⟨rfl, rfl⟩
  · rw [if_neg (by rw [h]; simp)]
    go_enter Tryd.func36, Tryd.ntmps36
    go_wp2_with fail
    go_ret
    exact ⟨rfl, rfl⟩

set_option maxHeartbeats 1000000 in
theorem l01From_b (n : Nat) (w : World) (hn : n < 4294967296) : Calls Tryd.prog 58 #[.int .i64 n] w fun e w' => e = .returned (.float .f32 n) ∧ w' = w := by
  have rf := run_frombits' (n : Int)
  have wn : IntKind.u32.wrap (n : Int) = (n : Int) := IntWalk.u32_in _ ⟨by omega, by omega⟩
  rw [Int.toNat_natCast] at rf
  go_enter Tryd.func58, Tryd.ntmps58
  go_wp2_with fail
  go_ret
  exact ⟨rfl, rfl⟩

set_option maxHeartbeats 1000000 in
theorem sFormatInt_16 (n : Nat) (w : World) (hn : n < 4294967296) (ht : TZ w) : Calls Tryd.prog 64 #[.int .i64 n, .int .i64 16] w fun e w' => e = .returned (.string (tx (hexD n))) ∧ Below w.heap.size w w' := by
  have FB := keep (formatBits_16 n hn w ht)
  have wn : IntKind.u64.wrap (n : Int) = (n : Int) := IntWalk.u64_in _ ⟨by omega, by omega⟩
  have hlt : ¬ ((n : Int) < 0) := by omega
  clear ht
  go_enter Tryd.func64, Tryd.ntmps64
  go_wp2_with fail
  refine FB.out.mono ?_
  rintro e w1 ⟨rfl, hb⟩
  have HB := keep hb
  clear hb
  go_wp2_with fail
  go_ret
  exact ⟨rfl, HB.out⟩
set_option maxHeartbeats 1000000 in
theorem FormatInt_16 (n : Nat) (w : World) (hn : n < 4294967296) (ht : TZ w) : Calls Tryd.prog 50 #[.int .i64 n, .int .i64 16] w fun e w' => e = .returned (.string (tx (hexD n))) ∧ Below w.heap.size w w' := by
  have FB := keep (sFormatInt_16 n w hn ht)
  clear ht
  go_enter Tryd.func50, Tryd.ntmps50
  go_wp2_with fail
  refine FB.out.mono ?_
  rintro e w1 ⟨rfl, hb⟩
  have HB := keep hb
  clear hb
  go_wp2_with fail
  go_ret
  exact ⟨rfl, HB.out⟩

/-- The eight digits of a word. -/
def hex8 (n : Nat) : List UInt8 := List.replicate (8 - (hexD n).length) 48 ++ hexD n

end Go.Proofs.YtldnldgndjbhfaaDoor
