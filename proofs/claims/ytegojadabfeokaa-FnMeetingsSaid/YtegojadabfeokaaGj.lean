/- Contracts: a drawn place; equal numbers. -/
import Derived.Test.YtegojadabfeokaaGg
import Derived.Laws.Externs
import Derived.Laws.ComplexArith
namespace Go.Proofs.Ytegojadabfeokaa
open Go.RowKit Go.Sort Ieee

theorem quarter_words : wd single 3 10 = 1067450368 ∧ wd single 3 20 = 1075838976 := by decide +kernel

set_option maxHeartbeats 4000000 in
set_option maxRecDepth 20000 in
theorem R8Place_ok (a : Option Addr) (n c p : Nat) (w : World) (hb : Bytes w a n) (hp : p ≤ 1000) :
    Calls Try.prog 9 #[.slice a n c, .int .i64 p] w fun e w' => ∃ x y : Int, (-64 ≤ x ∧ x ≤ 191) ∧ (-64 ≤ y ∧ y ≤ 191) ∧ e = .returned (.complex .f32 (wd single 3 x) (wd single 3 y)) ∧ Below w.heap.size w w' := by
  have HB := keep hb
  obtain ⟨qa, qb⟩ := quarter_words
  have P := Has.made w 25 #[.float .f32 (wd single 3 10), .float .f32 (wd single 3 20)]
  clear hb
  go_enter Try.func9, Try.ntmps9
  go_wp2_with fail
  go_loopw [6] (fun t wr => ∃ (k : Nat) (x y : Int), k ≤ 2 ∧ t = .int .i64 k ∧ (-64 ≤ x ∧ x ≤ 191) ∧ (-64 ≤ y ∧ y ≤ 191) ∧ Has wr w.heap.size 25 #[.float .f32 (wd single 3 x), .float .f32 (wd single 3 y)] ∧ Below w.heap.size w wr) (fun t _ => 2 - (intOf t).toNat)
  case atStart => exact ⟨0, 10, 20, by omega, rfl, ⟨by omega, by omega⟩, ⟨by omega, by omega⟩, by rw [qa, qb] at P ⊢; exact P, by go_grown⟩
  case round =>
    clear P qa qb
    obtain ⟨k, x, y, hk, rfl, hx, hy, hh, hbr⟩ := hrel
    have hcl := hh.cells
    have hfr := hh.free
    have hks : k = 0 ∨ k = 1 ∨ k = 2 := by omega
    rcases hks with rfl | rfl | rfl
    · -- k = 0
      by_cases hlt : p < n
      · obtain ⟨b, o, rfl, hbl, v, hv, hc⟩ := HB.out p hlt
        have hc2 : wr.cell? ⟨b, o + p, none⟩ = some (.int .u8 v) := (hbr.cell (p := ⟨b, o + p, none⟩) hbl).trans hc
        have hd : decide (p < n) = true := by simpa using hlt
        have f := frun (div8 ((v : Int) - 64) (by omega) (by omega))
        have hi : (p : Int) < (n : Int) := by omega
        clear hc
        go_wp2_with fail
        go_roundw
        case rel => exact ⟨1, (v : Int) - 64, y, by omega, rfl, ⟨by omega, by omega⟩, hy, hh.written 0 _, hbr.setCell (p := ⟨w.heap.size, 0, none⟩) (Nat.le_refl _) _⟩
        case measure => simp [intOf]
      · have hd : decide (p < n) = false := by simpa using hlt
        go_wp2_with fail
        go_roundw
        case rel => exact ⟨1, x, y, by omega, rfl, hx, hy, hh, hbr⟩
        case measure => simp [intOf]
    · -- k = 1
      by_cases hlt : p + 1 < n
      · obtain ⟨b, o, rfl, hbl, v, hv, hc⟩ := HB.out (p + 1) hlt
        have hc2 : wr.cell? ⟨b, o + (p + 1), none⟩ = some (.int .u8 v) := (hbr.cell (p := ⟨b, o + (p + 1), none⟩) hbl).trans hc
        have hd : decide (p + 1 < n) = true := by simpa using hlt
        have f := frun (div8 ((v : Int) - 64) (by omega) (by omega))
        have hi : (p : Int) + 1 < (n : Int) := by omega
        clear hc
        go_wp2_with fail
        go_roundw
        case rel => exact ⟨2, x, (v : Int) - 64, by omega, rfl, hx, ⟨by omega, by omega⟩, hh.written 1 _, hbr.setCell (p := ⟨w.heap.size, 1, none⟩) (Nat.le_refl _) _⟩
        case measure => simp [intOf]
      · have hd : decide (p + 1 < n) = false := by simpa using hlt
        go_wp2_with fail
        go_roundw
        case rel => exact ⟨2, x, y, by omega, rfl, hx, hy, hh, hbr⟩
        case measure => simp [intOf]
    · go_wp2_with fail
      go_quiet (fail)
      go_wp2_with fail
      go_ret
      exact ⟨x, y, hx, hy, rfl, Below.drewN_of hbr _⟩

theorem run_bits (n : Nat) (w : World) : (callFunc 66 #[.float .f32 n]).run Try.prog w = .ok (.value (.int .u32 n)) w :=
  (run_callFunc_extern Try.func66 (by kernel_rfl) (by kernel_rfl) (by kernel_rfl) (e := Extern.MathFloatBits.float32bits) (by kernel_rfl) _ w).trans rfl

theorem wd32_lt (k : Nat) (n : Int) : (wd single k n : Int) < 4294967296 := by
  have h := wd_lt single k n
  have e : 2 ^ single.width = 4294967296 := by decide
  omega
theorem order_wd_self (k : Nat) (a : Int) (hk : k ≤ 100) (ha : a.natAbs < 16777216) : FloatKind.f32.format.order (wd single k a) (wd single k a) = some .eq := by
  rw [forder hk ha ha]
  rw [Int.compare_eq_eq.2 rfl]

set_option maxHeartbeats 1000000 in
set_option maxRecDepth 20000 in
theorem BitsOf_wd (k : Nat) (a : Int) (hk : k ≤ 100) (ha : a.natAbs < 16777216) (w : World) : Calls Try.prog 52 #[.float .f32 (wd single k a)] w fun e w' => e = .returned (.int .i64 (wd single k a)) ∧ w' = w := by
  have ho := order_wd_self k a hk ha
  have hl := wd32_lt k a
  have hw : IntKind.i64.wrap (wd single k a : Int) = wd single k a := IntWalk.i64_in _ ⟨by omega, by omega⟩
  have hr := run_bits
  clear hk ha hl
  generalize wd single k a = z at *
  go_enter Try.func52, Try.ntmps52
  go_wp2
  go_ret
  exact ⟨rfl, rfl⟩

set_option maxHeartbeats 1000000 in
theorem SameNumber_wd (k : Nat) (a : Int) (hk : k ≤ 100) (ha : a.natAbs < 16777216) (w : World) : Calls Try.prog 23 #[.float .f32 (wd single k a), .float .f32 (wd single k a)] w fun e w' => e = .returned (.bool true) ∧ w' = w := by
  have B := keep (fun w => BitsOf_wd k a hk ha w)
  clear hk ha
  generalize wd single k a = z at *
  have hz : ((z : Int) == (z : Int)) = true := by simp
  go_enter Try.func23, Try.ntmps23
  go_wp2_with (go_at_call 52; refine (B.out _).mono ?_; rintro e w' ⟨rfl, rfl⟩)
  go_ret
  exact ⟨rfl, rfl⟩

set_option maxHeartbeats 1000000 in
theorem SameComplex_wd (x y : Int) (hx : x.natAbs < 16777216) (hy : y.natAbs < 16777216) (w : World) : Calls Try.prog 30 #[placeV x y, placeV x y] w fun e w' => e = .returned (.bool true) ∧ w' = w := by
  have A := keep (fun w => SameNumber_wd 3 x (by omega) hx w)
  have B := keep (fun w => SameNumber_wd 3 y (by omega) hy w)
  clear hx hy
  unfold placeV
  go_enter Try.func30, Try.ntmps30
  go_wp2_with fail
  refine (A.out _).mono ?_
  rintro e w' ⟨rfl, rfl⟩
  go_wp2_with fail
  refine (B.out _).mono ?_
  rintro e w' ⟨rfl, rfl⟩
  go_wp2_with fail
  go_ret
  exact ⟨rfl, rfl⟩

theorem r8Long_any (a b : Option Addr) (n1 c1 n2 c2 : Nat) (w : World) : Calls Try.prog 6 #[.slice a n1 c1, .slice b n2 c2] w fun e w' => e = .returned (.bool (decide (48 < n1) || decide (48 < n2))) ∧ w' = w := by
  cases h1 : decide (48 < n1)
  · have h1' : decide ((48 : Int) < (n1 : Int)) = false := by simp at h1 ⊢; omega
    have e2 : decide ((48 : Int) < (n2 : Int)) = decide (48 < n2) := by rw [decide_eq_decide]; omega
    go_enter Try.func6, Try.ntmps6
    go_wp2
    go_ret
    exact ⟨by simp, rfl⟩
  · have h1' : decide ((48 : Int) < (n1 : Int)) = true := by simp at h1 ⊢; omega
    go_enter Try.func6, Try.ntmps6
    go_wp2
    go_ret
    exact ⟨by simp, rfl⟩
end Go.Proofs.Ytegojadabfeokaa
