/- Contracts: bits of numbers and their eight digits. The table of trailing zeros is a premise. -/
import Derived.Test.YtcmppipilihmkaaGreatDoorUa
namespace Go.Proofs.YtcmppipilihmkaaGreatDoor
open Go.RowKit Go.Sort Ieee
set_option linter.unusedSimpArgs false

theorem run_frombits' (n : Int) (w : World) : (callFunc 55 #[.int .u32 n]).run Tryz.prog w = .ok (.value (.float .f32 n.toNat)) w :=
  (run_callFunc_extern Tryz.func55 (by kernel_rfl) (by kernel_rfl) (by kernel_rfl) (e := Extern.MathFloatBits.float32frombits) (by kernel_rfl) _ w).trans rfl
theorem run_bits' (n : Nat) (w : World) : (callFunc 56 #[.float .f32 n]).run Tryz.prog w = .ok (.value (.int .u32 n)) w :=
  (run_callFunc_extern Tryz.func56 (by kernel_rfl) (by kernel_rfl) (by kernel_rfl) (e := Extern.MathFloatBits.float32bits) (by kernel_rfl) _ w).trans rfl

theorem order_or (b : Nat) : FloatKind.f32.format.order b b = some .eq ∨ FloatKind.f32.format.order b b = none := by
  unfold Format.order
  cases FloatKind.f32.format.read b with
  | nan s p => exact .inr rfl
  | infinity s => left; cases s <;> rfl
  | number s m i =>
    left
    unfold Datum.order
    simp only
    rw [Int.compare_eq_eq.2 rfl]

/-- A number's bits as the program tells them: of what is no number one word alone. -/
def cb (b : Nat) : Nat := if FloatKind.f32.format.order b b = some .eq then b else 2143289344

set_option maxHeartbeats 1000000 in
theorem BitsOf_any (b : Nat) (w : World) (hb : b < 4294967296) : Calls Tryz.prog 21 #[.float .f32 b] w fun e w' => e = .returned (.int .i64 (cb b : Int)) ∧ w' = w := by
  unfold cb
  have rb := run_bits' b
  have wb : IntKind.i64.wrap (b : Int) = (b : Int) := IntWalk.i64_in _ ⟨by omega, by omega⟩
  rcases order_or b with h | h
  · rw [if_pos h]
    go_enter Tryz.func21, Tryz.ntmps21
    go_wp2_with fail
    go_ret
    exact ⟨rfl, rfl⟩
  · rw [if_neg (by rw [h]; simp)]
    go_enter Tryz.func21, Tryz.ntmps21
    go_wp2_with fail
    go_ret
    exact ⟨rfl, rfl⟩

set_option maxHeartbeats 1000000 in
theorem l01Bits_cb (b : Nat) (w : World) (hb : b < 4294967296) : Calls Tryz.prog 78 #[.float .f32 b] w fun e w' => e = .returned (.int .i64 (cb b : Int)) ∧ w' = w := by
  unfold cb
  have rb := run_bits' b
  have wb : IntKind.i64.wrap (b : Int) = (b : Int) := IntWalk.i64_in _ ⟨by omega, by omega⟩
  rcases order_or b with h | h
  · rw [if_pos h]
    go_enter Tryz.func78, Tryz.ntmps78
    go_wp2_with fail
    go_ret
    exact ⟨rfl, rfl⟩
  · rw [if_neg (by rw [h]; simp)]
    go_enter Tryz.func78, Tryz.ntmps78
    go_wp2_with fail
    go_ret
    exact ⟨rfl, rfl⟩

set_option maxHeartbeats 1000000 in
theorem l01From_b (n : Nat) (w : World) (hn : n < 4294967296) : Calls Tryz.prog 52 #[.int .i64 n] w fun e w' => e = .returned (.float .f32 n) ∧ w' = w := by
  have rf := run_frombits' (n : Int)
  have wn : IntKind.u32.wrap (n : Int) = (n : Int) := IntWalk.u32_in _ ⟨by omega, by omega⟩
  rw [Int.toNat_natCast] at rf
  go_enter Tryz.func52, Tryz.ntmps52
  go_wp2_with fail
  go_ret
  exact ⟨rfl, rfl⟩

set_option maxHeartbeats 1000000 in
theorem sFormatInt_16 (n : Nat) (w : World) (hn : n < 4294967296) (ht : TZ w) : Calls Tryz.prog 96 #[.int .i64 n, .int .i64 16] w fun e w' => e = .returned (.string (tx (hexD n))) ∧ Below w.heap.size w w' := by
  have FB := keep (formatBits_16 n hn w ht)
  have wn : IntKind.u64.wrap (n : Int) = (n : Int) := IntWalk.u64_in _ ⟨by omega, by omega⟩
  have hlt : ¬ ((n : Int) < 0) := by omega
  clear ht
  go_enter Tryz.func96, Tryz.ntmps96
  go_wp2_with fail
  refine FB.out.mono ?_
  rintro e w1 ⟨rfl, hb⟩
  have HB := keep hb
  clear hb
  go_wp2_with fail
  go_ret
  exact ⟨rfl, HB.out⟩
set_option maxHeartbeats 1000000 in
theorem FormatInt_16 (n : Nat) (w : World) (hn : n < 4294967296) (ht : TZ w) : Calls Tryz.prog 88 #[.int .i64 n, .int .i64 16] w fun e w' => e = .returned (.string (tx (hexD n))) ∧ Below w.heap.size w w' := by
  have FB := keep (sFormatInt_16 n w hn ht)
  clear ht
  go_enter Tryz.func88, Tryz.ntmps88
  go_wp2_with fail
  refine FB.out.mono ?_
  rintro e w1 ⟨rfl, hb⟩
  have HB := keep hb
  clear hb
  go_wp2_with fail
  go_ret
  exact ⟨rfl, HB.out⟩

/-- The eight digits of a word. -/
def hex8 (n : Nat) : List UInt8 := List.replicate (8 - (hexD n).length) 48 ++ hexD n
theorem repeatL_zero (c : Nat) : Lib.repeatL [48] c = List.replicate c 48 := by
  induction c with
  | zero => rfl
  | succ c ih =>
    show 48 :: Lib.repeatL [48] c = _
    rw [ih, List.replicate_succ]

set_option maxHeartbeats 2000000 in
theorem bitsText_any (b : Nat) (w : World) (hb : b < 4294967296) (ht : TZ w) : Calls Tryz.prog 68 #[.float .f32 b] w fun e w' => e = .returned (.string (tx (hex8 (cb b)))) ∧ Below w.heap.size w w' := by
  have BO := keep (fun w => BitsOf_any b w hb)
  have hc : cb b < 4294967296 := by unfold cb; split <;> omega
  have FI := keep (FormatInt_16 (cb b) w hc ht)
  have HL := hexD_len 8 (cb b) (by omega) (by omega)
  unfold hex8
  clear ht
  generalize cb b = m at *
  have RP := keep (fun w => Tryz.strings_Repeat (tx [48]) (8 - (hexD m).length) w (by omega) (by rw [tx_size]; simp; omega))
  rw [tx_bytes, repeatL_zero] at RP
  have e8 : (8 : Int) - ((hexD m).length : Int) = ((8 - (hexD m).length : Nat) : Int) := by omega
  have TS := tx_size (hexD m)
  have EZ : (⟨#[48]⟩ : ByteArray) = tx [48] := rfl
  have EC := keep (show (⟨(List.replicate (8 - (hexD m).length) 48).toArray⟩ : ByteArray) ++ tx (hexD m) = tx (List.replicate (8 - (hexD m).length) 48 ++ hexD m) by
    apply ByteArray.ext; unfold tx; simp)
  generalize hexD m = h at *
  go_enter Tryz.func68, Tryz.ntmps68
  go_wp2_with fail
  refine (BO.out _).mono ?_
  rintro e w1 ⟨rfl, hw⟩
  have hw := hw.symm
  subst hw
  go_wp2_with fail
  refine FI.out.mono ?_
  rintro e w2 ⟨rfl, hb2⟩
  have B2 := keep hb2
  clear hb2
  go_wp2_with fail
  refine (RP.out _).mono ?_
  rintro e w3 ⟨rfl, hb3⟩
  have B3 := keep (B2.out.trans (hb3.mono B2.out.size))
  clear hb3
  have hsz : ((⟨(List.replicate (8 - h.length) 48).toArray⟩ : ByteArray)).size = 8 - h.length := by
    show (List.replicate (8 - h.length) (48 : UInt8)).toArray.size = _
    simp
  go_wp2_with fail
  go_ret
  exact ⟨by rw [← EC.out]; rfl, B3.out⟩
end Go.Proofs.YtcmppipilihmkaaGreatDoor
