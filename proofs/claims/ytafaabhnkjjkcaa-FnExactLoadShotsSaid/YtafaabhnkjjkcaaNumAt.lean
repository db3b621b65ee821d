/- Contracts: the number of four bytes at a place. -/
import Derived.Test.YtafaabhnkjjkcaaValid
import Derived.Lib.EndianBits
namespace Go.Proofs.Ytafaabhnkjjkcaa
open Go.RowKit

theorem wraps_i64 (n : Int) (h0 : 0 ≤ n) (h1 : n < 2 ^ 63) : IntKind.i64.wrap n = n := IntWalk.i64_in n ⟨by omega, by omega⟩

/-- Four bytes joined, the least first. -/
theorem or4 (a b c d : Nat) (ha : a < 256) (hb : b < 256) (hc : c < 256) (hd : d < 256) :
    bits .or .i64 (bits .or .i64 (bits .or .i64 a ((b : Int) * 256)) ((c : Int) * 65536)) ((d : Int) * 16777216) = ((a + b * 256 + c * 65536 + d * 16777216 : Nat) : Int) := by
  rw [bits_join_low .i64 63 (by decide) wraps_i64 8 a (b * 256) (by omega) (by omega) (by omega) (by omega) (by omega) (by omega),
    bits_join_low .i64 63 (by decide) wraps_i64 16 (a + b * 256) (c * 65536) (by omega) (by omega) (by omega) (by omega) (by omega) (by omega),
    bits_join_low .i64 63 (by decide) wraps_i64 24 (a + b * 256 + c * 65536) (d * 16777216) (by omega) (by omega) (by omega) (by omega) (by omega) (by omega)]
  omega

/-- The byte at a place of a string. -/
def byteAt (s : ByteArray) (i : Nat) : Nat := (s.data.getD i 0).toNat
theorem byteAt_lt (s : ByteArray) (i : Nat) : byteAt s i < 256 := UInt8.toNat_lt _

theorem run_byteAt (s : ByteArray) (i : Int) (n : Nat) (hi : i = n) (h : n < s.size) (w : World) :
    (Instr.index 9 (.string s) (.int .i64 i)).run Try.prog w = .ok (.int .u8 (byteAt s n)) w := by
  subst hi
  rw [run_index_string w 9 s .i64 n Try.underlying9, dif_pos ⟨by omega, by omega⟩]
  have e : (s[(n : Int).toNat]'(by simpa using h)) = s.data.getD n 0 := by
    simp only [Int.toNat_natCast]
    show s.data[n] = _
    have h' : n < s.data.size := h
    unfold Array.getD
    rw [dif_pos h']
    rfl
  unfold byteAt
  rw [← e]

set_option maxHeartbeats 1000000 in
theorem l10Number_any (s : ByteArray) (n : Nat) (w : World) (hs : s.size ≤ 1000000000000000) (h : n + 4 ≤ s.size) :
    Calls Try.prog 67 #[.string s, .int .i64 n] w fun e w' => e = .returned (.float .f32 (Lib.leNat [s.data.getD n 0, s.data.getD (n + 1) 0, s.data.getD (n + 2) 0, s.data.getD (n + 3) 0])) ∧ ∃ m, w' = w.drewN m := by
  have i0 := run_byteAt s n n rfl (by omega)
  have i1 := run_byteAt s (n + 1) (n + 1) (by omega) (by omega)
  have i2 := run_byteAt s (n + 2) (n + 2) (by omega) (by omega)
  have i3 := run_byteAt s (n + 3) (n + 3) (by omega) (by omega)
  have l0 := byteAt_lt s n
  have l1 := byteAt_lt s (n + 1)
  have l2 := byteAt_lt s (n + 2)
  have l3 := byteAt_lt s (n + 3)
  have Ho := keep (or4 _ _ _ _ l0 l1 l2 l3)
  have Hn : Kept (Lib.leNat [s.data.getD n 0, s.data.getD (n + 1) 0, s.data.getD (n + 2) 0, s.data.getD (n + 3) 0] = byteAt s n + byteAt s (n + 1) * 256 + byteAt s (n + 2) * 65536 + byteAt s (n + 3) * 16777216) := by
    refine keep ?_
    unfold byteAt
    simp only [Lib.leNat]
    omega
  have Hl : Kept (((byteAt s n + byteAt s (n + 1) * 256 + byteAt s (n + 2) * 65536 + byteAt s (n + 3) * 16777216 : Nat) : Int) < two32) := by
    refine keep ?_
    unfold two32
    omega
  go_enter Try.func67, Try.ntmps67
  go_wp2_with fail
  refine wp_region_quiet_lit (by kernel_rfl) (by kernel_rfl) ?_
  repeat (any_goals (go_big_quiet_step (first | (go_at_call 91; rw [Ho.out]; exact Calls.quiet_of_same (l01From_any _ _ (by omega) Hl.out)))))
  refine wpQuiet_nil ?_
  intro _ hw'
  obtain ⟨nq, hw''⟩ := hw'
  subst hw''
  go_wp2
  go_ret
  exact ⟨by rw [Hn.out]; simp; omega, _, rfl⟩

/-- The 32-bit number of four bytes at a place. -/
def numAt (s : ByteArray) (n : Nat) : Nat := Lib.leNat [s.data.getD n 0, s.data.getD (n + 1) 0, s.data.getD (n + 2) 0, s.data.getD (n + 3) 0]

theorem l10Number_at (s : ByteArray) (i : Int) (w : World) (hs : s.size ≤ 1000000000000000) (h0 : 0 ≤ i) (h : i + 4 ≤ s.size) :
    Calls Try.prog 67 #[.string s, .int .i64 i] w fun e w' => e = .returned (.float .f32 (numAt s i.toNat)) ∧ ∃ m, w' = w.drewN m := by
  obtain ⟨n, rfl⟩ := Int.eq_ofNat_of_zero_le h0
  exact l10Number_any s n w hs (by omega)
end Go.Proofs.Ytafaabhnkjjkcaa
