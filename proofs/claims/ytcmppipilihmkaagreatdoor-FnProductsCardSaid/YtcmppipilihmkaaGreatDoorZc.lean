/- Contracts: bits put back, sums from left to right, subnormal numbers, flushed numbers, a number widened and narrowed. No condition. -/
import Derived.Test.YtcmppipilihmkaaGreatDoorZb
import Derived.Test.YtcmppipilihmkaaGreatDoorEqP
import Derived.Laws.BitsAllLaws
namespace Go.Proofs.YtcmppipilihmkaaGreatDoor
open Go.RowKit Go.Sort Ieee
set_option linter.unusedSimpArgs false

/-! ### One word for every NaN -/
theorem isNaN_order {b : Nat} : FloatKind.f32.format.order b b = none ↔ isNaN .f32 b = true := by
  constructor
  · intro h
    cases hn : isNaN .f32 b
    · rw [order_self hn] at h; cases h
    · rfl
  · intro h; exact order_nan_l .f32 b h
theorem cb_nan {b : Nat} (h : isNaN .f32 b = true) : cb b = 2143289344 := by
  unfold cb
  rw [isNaN_order.2 h, if_neg (by simp)]
theorem cb_num {b : Nat} (h : isNaN .f32 b = false) : cb b = b := by
  unfold cb
  rw [order_self h, if_pos rfl]
theorem FEq.cb {r s : Nat} (h : FEq .f32 r s) : cb r = cb s := by
  rcases h with rfl | ⟨h1, h2⟩
  · rfl
  · rw [cb_nan h1, cb_nan h2]
theorem cb_lt {b : Nat} (h : b < 4294967296) : cb b < 4294967296 := by unfold cb; split <;> omega
theorem cb_cb (b : Nat) : cb (cb b) = cb b := by
  cases h : isNaN .f32 b
  · rw [cb_num h, cb_num h]
  · rw [cb_nan h]; decide +kernel
theorem fop_left {op : BinOp} (ho : arithOp op = true) {k : FloatKind} {a a' : Nat} (x : Nat) (h : FEq k a a') : FEq k (fop op k a x) (fop op k a' x) := by
  rcases h with rfl | ⟨h1, h2⟩
  · exact .inl rfl
  · have hn : ∀ a, isNaN k a = true → fop op k a x = qnan k := by
      intro a ha
      obtain ⟨s, t, e⟩ := read_nan_of ha
      unfold fop floatBits
      cases op <;> simp [arithOp] at ho <;> simp [Format.add, Format.sub, Format.mul, Format.div, e, Datum.sum, Datum.product, Datum.quotient]
    exact .inl (by rw [hn a h1, hn a' h2])
theorem same_ok (a b : Nat) (w : World) (ha : a < 4294967296) (hb : b < 4294967296) : Calls Tryz.prog 42 #[.float .f32 a, .float .f32 b] w fun e w' => e = .returned (.bool (cb a == cb b)) ∧ w' = w := by
  have A := keep (fun w => l01Bits_cb a w ha)
  have B := keep (fun w => l01Bits_cb b w hb)
  have e : (((cb a : Nat) : Int) == ((cb b : Nat) : Int)) = (cb a == cb b) := by
    rw [Bool.eq_iff_iff]; simp; omega
  clear ha hb
  generalize cb a = x at *
  generalize cb b = y at *
  go_enter Tryz.func42, Tryz.ntmps42
  go_wp2_with fail
  refine (A.out _).mono ?_
  rintro e w' ⟨rfl, rfl⟩
  go_wp2_with fail
  refine (B.out _).mono ?_
  rintro e w' ⟨rfl, rfl⟩
  go_wp2_with fail
  go_ret
  exact ⟨by rw [← e]; rfl, rfl⟩
theorem SameNumber_ok (a b : Nat) (w : World) (ha : a < 4294967296) (hb : b < 4294967296) : Calls Tryz.prog 10 #[.float .f32 a, .float .f32 b] w fun e w' => e = .returned (.bool (cb a == cb b)) ∧ w' = w := by
  have A := keep (same_ok a b w ha hb)
  clear ha hb
  generalize (cb a == cb b) = x at *
  go_enter Tryz.func10, Tryz.ntmps10
  go_wp2_with fail
  refine A.out.mono ?_
  rintro e w' ⟨rfl, rfl⟩
  go_wp2_with fail
  go_ret
  exact ⟨rfl, rfl⟩

theorem FromBits_ok (n : Nat) (w : World) (hn : n < 4294967296) : Calls Tryz.prog 20 #[.int .i64 n] w fun e w' => e = .returned (.tuple #[.float .f32 n, .bool true]) ∧ w' = w := by
  have W := keep (within_any n 0 4294967295 w)
  have rf := run_frombits' (n : Int)
  have wn : IntKind.u32.wrap (n : Int) = (n : Int) := IntWalk.u32_in _ ⟨by omega, by omega⟩
  rw [Int.toNat_natCast] at rf
  have e : (decide ((0 : Int) ≤ (n : Int)) && decide ((n : Int) ≤ 4294967295)) = true := by simp; omega
  rw [e] at W
  clear e
  go_enter Tryz.func20, Tryz.ntmps20
  go_wp2_with fail
  refine W.out.mono ?_
  rintro e w' ⟨rfl, rfl⟩
  go_wp2_with fail
  go_ret2
  exact ⟨rfl, rfl⟩

/-! ### Sums -/
def sumF (xs : List Nat) : Nat := xs.foldl (fun a x => fop .add .f32 a x) 0
theorem sumF_snoc (xs : List Nat) (i : Nat) (h : i < xs.length) : sumF (xs.take (i + 1)) = fop .add .f32 (sumF (xs.take i)) xs[i] := by
  unfold sumF
  rw [List.take_succ_eq_append_getElem h, List.foldl_append]
  rfl

theorem isListF_ok (A : Option Addr) (n c : Nat) (w : World) (hn : n ≤ 256) : Calls Tryz.prog 65 #[.slice A n c] w fun e w' => e = .returned (.bool true) ∧ w' = w := by
  have h : (n : Int) ≤ 256 := by omega
  go_enter Tryz.func65, Tryz.ntmps65
  go_wp2_with fail
  go_ret
  exact ⟨by simp [h], rfl⟩

theorem Wds.cell {w : World} {B n c : Nat} {A : Option Addr} {xs : List Nat} (h : Wds w B (.slice A n c) xs) (i : Nat) (hi : i < xs.length) : ∃ g, A = some ⟨g, 0, none⟩ ∧ g < w.heap.size ∧ w.cell? ⟨g, i, none⟩ = some (.float .f32 xs[i]) := by
  obtain ⟨g, c2, e, _, _⟩ := h.form (by omega)
  injection e with e1 e2 e3
  refine ⟨g, e1, ?_, ?_⟩
  · have hc := h.cells (g := g) (by rw [e1]; rfl) i (.float .f32 xs[i]) (by rw [List.getElem?_map, List.getElem?_eq_getElem hi]; rfl)
    rw [Addr.add_lit, Nat.zero_add] at hc
    exact World.block_lt_of_cell? w _ hc
  · have hc := h.cells (g := g) (by rw [e1]; rfl) i (.float .f32 xs[i]) (by rw [List.getElem?_map, List.getElem?_eq_getElem hi]; rfl)
    rwa [Addr.add_lit, Nat.zero_add] at hc
theorem Wds.len {w : World} {B n c : Nat} {A : Option Addr} {xs : List Nat} (h : Wds w B (.slice A n c) xs) : n = xs.length := by
  have := h.2
  rcases h.2 with ⟨e, hz⟩ | ⟨g, cap, cur, e, _⟩
  · injection e with _ e _
    omega
  · injection e with _ e _

set_option maxHeartbeats 2000000 in
theorem sum_ok (B n c : Nat) (A : Option Addr) (xs : List Nat) (w : World) (h : Wds w B (.slice A n c) xs) (hN : xs.length ≤ 256) :
    Calls Tryz.prog 66 #[.slice A n c] w fun e w' => ∃ r m, e = .returned (.float .f32 r) ∧ r < 4294967296 ∧ FEq .f32 r (sumF xs) ∧ w' = w.drewN m := by
  obtain rfl := h.len
  have CE := keep (fun i hi => h.cell i hi)
  clear h
  go_enter Tryz.func66, Tryz.ntmps66
  go_wp2_with fail
  go_loopw [3, 8] (fun o t wr => ∃ (i r m : Nat), o = .float .f32 r ∧ t = .int .i64 i ∧ i ≤ xs.length ∧ Kept (r < 4294967296) ∧ Kept (FEq .f32 r (sumF (xs.take i))) ∧ wr = w.drewN m) (fun _ t _ => xs.length - (intOf t).toNat)
  case atStart => exact ⟨0, 0, 0, rfl, rfl, by omega, keep (by omega), keep (.inl rfl), rfl⟩
  case round =>
    obtain ⟨i, r, m, rfl, rfl, hi, hr, hf, rfl⟩ := hrel
    by_cases hlt : i < xs.length
    · obtain ⟨g, rfl, hg, hc⟩ := CE.out i hlt
      have hc2 : (w.drewN m).cell? ⟨g, i, none⟩ = some (.float .f32 xs[i]) := hc
      have SN := keep (sumF_snoc xs i hlt)
      have hltI : (i : Int) < (xs.length : Int) := by omega
      generalize xs[i] = x at *
      go_wp2_with (refine wpList_farith_lt rfl .add _ _ _ _ rfl rfl _ _ rfl rfl ?_; intro z m2 hz lz)
      go_roundw
      case rel => exact ⟨i + 1, z, m + m2, rfl, by go_num, by omega, keep lz, keep (by rw [SN.out]; exact hz.trans (fop_left rfl x hf.out)), by first | rfl | (rw [World.drewN_drewN])⟩
      case measure => simp [intOf]; omega
    · obtain rfl : i = xs.length := by omega
      have hf2 := hf.out
      rw [List.take_length] at hf2
      go_wp2_with fail
      go_ret
      exact ⟨r, m, rfl, hr.out, hf2, rfl⟩

set_option maxHeartbeats 1000000 in
theorem SumNumbers_ok (B n c : Nat) (A : Option Addr) (xs : List Nat) (w : World) (h : Wds w B (.slice A n c) xs) (hN : xs.length ≤ 256) :
    Calls Tryz.prog 30 #[.slice A n c] w fun e w' => ∃ r m, e = .returned (.tuple #[.float .f32 r, .bool true]) ∧ r < 4294967296 ∧ FEq .f32 r (sumF xs) ∧ w' = w.drewN m := by
  have L := keep (isListF_ok A n c w (by rw [h.len]; exact hN))
  have S := keep (sum_ok B n c A xs w h hN)
  clear h
  go_enter Tryz.func30, Tryz.ntmps30
  go_wp2_with fail
  refine L.out.mono ?_
  rintro e w' ⟨rfl, hw⟩
  have hw := hw.symm
  subst hw
  go_wp2_with fail
  refine S.out.mono ?_
  rintro e w' ⟨r, m, rfl, hr, hf, rfl⟩
  have HR := keep hr
  have HF := keep hf
  clear hr hf
  go_wp2_with fail
  go_ret2
  exact ⟨r, m, rfl, HR.out, HF.out, rfl⟩

/-! ### Bits of 64 -/
theorem run_frombits64 (n : Int) (w : World) : (callFunc 86 #[.int .u64 n]).run Tryz.prog w = .ok (.value (.float .f64 n.toNat)) w :=
  (run_callFunc_extern Tryz.func86 (by kernel_rfl) (by kernel_rfl) (by kernel_rfl) (e := Extern.MathFloatBits.float64frombits) (by kernel_rfl) _ w).trans rfl
theorem run_bits64 (n : Nat) (w : World) : (callFunc 87 #[.float .f64 n]).run Tryz.prog w = .ok (.value (.int .u64 n)) w :=
  (run_callFunc_extern Tryz.func87 (by kernel_rfl) (by kernel_rfl) (by kernel_rfl) (e := Extern.MathFloatBits.float64bits) (by kernel_rfl) _ w).trans rfl
theorem unsign64 (b : Nat) (h : b < 18446744073709551616) : bits .andNot .u64 (b : Int) 9223372036854775808 = ((b % 9223372036854775808 : Nat) : Int) := by
  have e := u64_andNot_nat b 9223372036854775808 h (by omega)
  rw [show (18446744073709551615 - 9223372036854775808 : Nat) = 2 ^ 63 - 1 from rfl, Nat.and_two_pow_sub_one_eq_mod] at e
  exact e
theorem sign64 (b : Nat) (h : b < 18446744073709551616) : bits .and .u64 (b : Int) 9223372036854775808 = ((b / 9223372036854775808 * 9223372036854775808 : Nat) : Int) := by
  have e := bits_and_u64_nat b 9223372036854775808 (by omega) (by omega)
  have e2 : b &&& 9223372036854775808 = b / 9223372036854775808 * 9223372036854775808 := by
    have hq : b < 2 ^ 63 ∨ (2 ^ 63 ≤ b ∧ b < 2 ^ (63 + 1)) := by omega
    rcases hq with hq | ⟨h1, h2⟩
    · have e0 : b / 9223372036854775808 * 9223372036854775808 = 0 := by omega
      rw [e0]
      refine Nat.eq_of_testBit_eq fun i => ?_
      rw [Nat.testBit_and, show (9223372036854775808 : Nat) = 2 ^ 63 from rfl, Nat.testBit_two_pow, Nat.zero_testBit]
      by_cases hi : 63 = i
      · subst hi; rw [Nat.testBit_lt_two_pow hq]; rfl
      · simp [hi]
    · have e0 : b / 9223372036854775808 * 9223372036854775808 = 2 ^ 63 := by omega
      rw [e0]
      refine Nat.eq_of_testBit_eq fun i => ?_
      rw [Nat.testBit_and, show (9223372036854775808 : Nat) = 2 ^ 63 from rfl, Nat.testBit_two_pow]
      by_cases hi : 63 = i
      · subst hi; rw [Nat.testBit_of_two_pow_le_and_two_pow_add_one_gt h1 h2]; rfl
      · simp [hi]
  rw [e2] at e
  exact e

set_option maxHeartbeats 1000000 in
theorem Abs_any (b : Nat) (w : World) (hb : b < 18446744073709551616) : Calls Tryz.prog 71 #[.float .f64 b] w fun e w' => e = .returned (.float .f64 (b % 9223372036854775808)) ∧ w' = w := by
  have r1 := run_bits64 b
  have r2 := run_frombits64 ((b % 9223372036854775808 : Nat) : Int)
  rw [Int.toNat_natCast] at r2
  have u := unsign64 b hb
  generalize b % 9223372036854775808 = q at *
  go_enter Tryz.func71, Tryz.ntmps71
  go_wp2_with fail
  go_ret
  exact ⟨rfl, rfl⟩
set_option maxHeartbeats 1000000 in
theorem Copysign0_any (b : Nat) (w : World) (hb : b < 18446744073709551616) : Calls Tryz.prog 63 #[.float .f64 0, .float .f64 b] w fun e w' => e = .returned (.float .f64 (b / 9223372036854775808 * 9223372036854775808)) ∧ w' = w := by
  have r0 := run_bits64 0
  have r1 := run_bits64 b
  have hq : b / 9223372036854775808 * 9223372036854775808 = 0 ∨ b / 9223372036854775808 * 9223372036854775808 = 9223372036854775808 := by omega
  have u := sign64 b hb
  have u0 : bits .andNot .u64 0 9223372036854775808 = 0 := by decide +kernel
  have o1 : bits .or .u64 0 0 = 0 := by decide +kernel
  have o2 : bits .or .u64 0 9223372036854775808 = 9223372036854775808 := by decide +kernel
  rcases hq with hq | hq
  · have r2 := run_frombits64 0
    rw [hq] at u ⊢
    go_enter Tryz.func63, Tryz.ntmps63
    go_wp2_with fail
    go_ret
    exact ⟨rfl, rfl⟩
  · have r2 := run_frombits64 9223372036854775808
    rw [hq] at u ⊢
    go_enter Tryz.func63, Tryz.ntmps63
    go_wp2_with fail
    go_ret
    exact ⟨rfl, rfl⟩
end Go.Proofs.YtcmppipilihmkaaGreatDoor
