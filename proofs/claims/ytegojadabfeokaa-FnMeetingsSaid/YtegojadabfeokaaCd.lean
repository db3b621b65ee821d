/- Small facts of numbers in 64 bits: their bits, the absolute value, a number widened. No condition but those stated. -/
import Derived.Test.YtegojadabfeokaaZ0
import Derived.Test.YtegojadabfeokaaBe
import Derived.Laws.BitsAllLaws
namespace Go.Proofs.Ytegojadabfeokaa
open Go.RowKit Go.Sort Ieee
set_option linter.unusedSimpArgs false

theorem width32 : 2 * single.signWeight = 4294967296 := by decide
theorem write_lt (f : Format) (d : Datum) : f.write d < 2 * f.signWeight := by
  have hs : f.infRung + f.binade = f.signWeight := by
    unfold Format.infRung Format.signWeight Format.binade
    rw [Nat.pow_add, Nat.sub_mul, Nat.one_mul]
    have := Nat.mul_le_mul_right (2 ^ f.fractionBits) (Nat.one_le_two_pow (n := f.exponentBits))
    omega
  have hb := binade_pos f
  have hw : ∀ s r, r < f.signWeight → f.word s r < 2 * f.signWeight := by
    intro s r hr
    unfold Format.word
    split <;> omega
  cases d with
  | number s m i =>
    show f.nearest s m i < _
    unfold Format.nearest
    split
    · exact hw _ _ (by omega)
    · refine hw _ _ ?_
      have := Nat.min_le_right ((max (i + m.log2 - f.fractionBits) f.leastPlace - f.leastPlace).toNat * f.binade + Toward.even.cut s (m <<< (i - max (i + m.log2 - f.fractionBits) f.leastPlace).toNat) (max (i + m.log2 - f.fractionBits) f.leastPlace - i).toNat) f.infRung
      omega
  | infinity s => exact hw _ _ (by omega)
  | nan s t =>
    refine hw _ _ ?_
    have := Nat.mod_lt t hb
    omega
theorem width64 : 2 * double.signWeight = 18446744073709551616 := by decide
theorem widen_lt (b : Nat) : widen b < 18446744073709551616 := by
  unfold widen
  split
  · decide
  · rw [← width64]; exact write_lt double _
theorem run_frombits64 (n : Int) (w : World) : (callFunc 64 #[.int .u64 n]).run Try.prog w = .ok (.value (.float .f64 n.toNat)) w :=
  (run_callFunc_extern Try.func64 (by kernel_rfl) (by kernel_rfl) (by kernel_rfl) (e := Extern.MathFloatBits.float64frombits) (by kernel_rfl) _ w).trans rfl
theorem run_bits64 (n : Nat) (w : World) : (callFunc 65 #[.float .f64 n]).run Try.prog w = .ok (.value (.int .u64 n)) w :=
  (run_callFunc_extern Try.func65 (by kernel_rfl) (by kernel_rfl) (by kernel_rfl) (e := Extern.MathFloatBits.float64bits) (by kernel_rfl) _ w).trans rfl
theorem unsign64 (b : Nat) (h : b < 18446744073709551616) : bits .andNot .u64 (b : Int) 9223372036854775808 = ((b % 9223372036854775808 : Nat) : Int) := by
  have e := u64_andNot_nat b 9223372036854775808 h (by omega)
  rw [show (18446744073709551615 - 9223372036854775808 : Nat) = 2 ^ 63 - 1 from rfl, Nat.and_two_pow_sub_one_eq_mod] at e
  exact e
set_option maxHeartbeats 1000000 in
theorem Abs_any (b : Nat) (w : World) (hb : b < 18446744073709551616) : Calls Try.prog 50 #[.float .f64 b] w fun e w' => e = .returned (.float .f64 (b % 9223372036854775808)) ∧ w' = w := by
  have r1 := run_bits64 b
  have r2 := run_frombits64 ((b % 9223372036854775808 : Nat) : Int)
  rw [Int.toNat_natCast] at r2
  have u := unsign64 b hb
  generalize b % 9223372036854775808 = q at *
  go_enter Try.func50, Try.ntmps50
  go_wp2_with fail
  go_ret
  exact ⟨rfl, rfl⟩
theorem ftf_widen {b : Nat} (h : Nm single b) : floatToFloatBits .f32 b .f64 = some (widen b) := by
  obtain ⟨s, m, i, h⟩ := h
  obtain ⟨r, hr, hw, hread, hsm⟩ := widen_number (b := b) h
  have he : FloatKind.f64.encode (.number s m i) = widen b := by unfold widen; rw [show FloatKind.f32.decode b = .number s m i from h]
  unfold floatToFloatBits
  simp only [show FloatKind.f32.decode b = .number s m i from h, he, hread]
  simp [Ieee.Datum.isInfinity]
theorem Nm_of_fin {b : Nat} (h : fin .f32 b = true) : Nm single b := by
  unfold fin at h
  cases hd : FloatKind.f32.format.read b with
  | number s m i => exact ⟨s, m, i, hd⟩
  | infinity s => rw [hd] at h; cases h
  | nan s t => rw [hd] at h; cases h
theorem run_wide {b : Nat} (h : fin .f32 b = true) (w : World) : (convert 25 34 (.float .f32 b)).run Try.prog w = .ok (.float .f64 (widen b)) w := zconv32 b _ (ftf_widen (Nm_of_fin h)) w
theorem widen_val {b : Nat} (h : Nm single b) : Nm double (widen b) ∧ V double (widen b) = V single b := by
  obtain ⟨D, h1, h2, h3⟩ := widen_V h
  rw [ftf_widen h] at h1
  injection h1 with h1
  rw [h1]
  exact ⟨h2, h3⟩
end Go.Proofs.Ytegojadabfeokaa
