/- Contracts: bytes of numbers and of check numbers. -/
import Derived.Test.YtafaabhnkjjkcaaSa
import Derived.Laws.IdiomStrings
import Derived.Lib.EndianBits
namespace Go.Proofs.Ytafaabhnkjjkcaa
open Go.RowKit Go.Sort

theorem ret_int {k : IntKind} {a b : Int} (h : a = b) : Ending.returned (.int k a) = .returned (.int k b) := by rw [h]

set_option maxHeartbeats 1000000 in
theorem l01Check_any (n : Int) (s : ByteArray) (w : World) (hs : s.size ≤ 100000000) (h0 : 0 ≤ n) (h1 : n ≤ 65002) :
    Calls Try.prog 99 #[.int .i64 n, .string s] w fun e w' => e = .returned (.int .i64 (ck n s.data.toList)) ∧ w' = w := by
  have HB := keep (fun k : Nat => ck_bound n (s.data.toList.take k) h0 h1)
  clear h0 h1
  go_enter Try.func99, Try.ntmps99
  go_wp2
  go_loop [0, 5] (fun c i => ∃ k : Nat, k ≤ s.size ∧ i = .int .i64 k ∧ c = .int .i64 (ck n (s.data.toList.take k))) (fun _ i => s.size - (intOf i).toNat)
  case atStart => exact ⟨0, Nat.zero_le _, rfl, rfl⟩
  case round =>
    obtain ⟨k, hk, rfl, rfl⟩ := hrel
    have hb := HB.out k
    by_cases hlt : k < s.size
    · have hsn := ck_snoc n (s.data.toList.take k) s[k]
      rw [← take_snoc s k hlt] at hsn
      have HS := keep hsn
      clear hsn
      obtain ⟨hb0, hb1⟩ := hb
      generalize ck n (s.data.toList.take k) = c at *
      have hby : (s[k].toNat : Int) < 256 := by have := s[k].toNat_lt; omega
      go_wp2
      go_round
      case rel => exact ⟨k + 1, by omega, by go_num, by rw [HS.out]⟩
      case measure => simp [intOf]; omega
    · go_wp2
      go_ret
      exact ⟨ret_int (by rw [List.take_of_length_le (by simp; omega)]), rfl⟩

set_option maxHeartbeats 1000000 in
theorem CheckOf_any (n : Int) (s : ByteArray) (w : World) (hs : s.size ≤ 100000000) (h0 : 0 ≤ n) (h1 : n ≤ 65002) :
    Calls Try.prog 82 #[.int .i64 n, .string s] w fun e w' => e = .returned (.tuple #[.int .i64 (ck n s.data.toList), .bool true]) ∧ w' = w := by
  have HB := keep (fun k : Nat => ck_bound n (s.data.toList.take k) h0 h1)
  have hw := fun w => within_any n 0 65002 w
  rw [show (decide (0 ≤ n) && decide (n ≤ 65002)) = true by simp; omega] at hw
  have HW := keep hw
  clear h0 h1 hw
  go_enter Try.func82, Try.ntmps82
  go_wp2_with (go_at_call 64; refine (HW.out _).mono ?_; rintro e w' ⟨rfl, rfl⟩)
  go_loop [0, 12] (fun c i => ∃ k : Nat, k ≤ s.size ∧ i = .int .i64 k ∧ c = .int .i64 (ck n (s.data.toList.take k))) (fun _ i => s.size - (intOf i).toNat)
  case atStart => exact ⟨0, Nat.zero_le _, rfl, rfl⟩
  case round =>
    obtain ⟨k, hk, rfl, rfl⟩ := hrel
    have hb := HB.out k
    by_cases hlt : k < s.size
    · have hsn := ck_snoc n (s.data.toList.take k) s[k]
      rw [← take_snoc s k hlt] at hsn
      have HS := keep hsn
      clear hsn
      obtain ⟨hb0, hb1⟩ := hb
      generalize ck n (s.data.toList.take k) = c at *
      have hby : (s[k].toNat : Int) < 256 := by have := s[k].toNat_lt; omega
      go_wp2
      go_round
      case rel => exact ⟨k + 1, by omega, by go_num, by rw [HS.out]⟩
      case measure => simp [intOf]; omega
    · have e : s.data.toList.take k = s.data.toList := List.take_of_length_le (by simp; omega)
      rw [e]
      clear e hb
      go_wp2
      go_ret2
      exact ⟨rfl, rfl⟩

theorem byte_in (v : Int) (h0 : 0 ≤ v) (h1 : v ≤ 255) : (((UInt8.ofNat v.toNat).toNat : Nat) : Int) = v := by
  rw [UInt8.toNat_ofNat']; omega

/-- 'string(b)' of bytes that have just been laid. -/
theorem run_str (w : World) (vs : List Int) (c : Nat) (h : ∀ v ∈ vs, 0 ≤ v ∧ v ≤ 255) :
    (convert 50 9 (.slice (some ⟨w.heap.size, 0, none⟩) vs.length c)).run Try.prog (w.alloc (.cells (vs.map fun v => Value.int .u8 v).toArray 5)) =
      .ok (.string ⟨(vs.map fun v => UInt8.ofNat v.toNat).toArray⟩) (w.alloc (.cells (vs.map fun v => Value.int .u8 v).toArray 5)) := by
  have hb := run_convert_bytes_back (P := Try.prog) (w.alloc (.cells (vs.map fun v => Value.int .u8 v).toArray 5)) 50 9 5 ⟨w.heap.size, 0, none⟩ c (vs.map fun v => UInt8.ofNat v.toNat) Try.underlying50 Try.underlying5 Try.underlying9 (fun j hj => by
    have hj' : j < vs.length := by simpa using hj
    have hm := Has.made w 5 (vs.map fun v => Value.int .u8 v).toArray
    rw [Addr.add_lit, Nat.zero_add, hm.cells]
    obtain ⟨h0, h1⟩ := h vs[j] (List.getElem_mem hj')
    simp only [List.getElem?_toArray, List.getElem?_map, List.getElem?_eq_getElem hj', Option.map_some, List.getElem_map]
    rw [byte_in _ h0 h1])
  rwa [List.length_map] at hb

/-- The two bytes of a check number. -/
def two (n : Nat) : List UInt8 := [UInt8.ofNat (n % 256), UInt8.ofNat (n / 256)]

set_option maxHeartbeats 1000000 in
set_option maxRecDepth 20000 in
theorem checkBytes_any (s : ByteArray) (w : World) (hs : s.size ≤ 100000000) :
    Calls Try.prog 56 #[.string s] w fun e w' => e = .returned (.string ⟨(two (ckAt s s.size)).toArray⟩) ∧ Below w.heap.size w w' := by
  have hc := CheckOf_any 0 s w hs (by omega) (by omega)
  have hk := ckAt_bound s s.size
  rw [List.take_of_length_le (by simp)] at hk
  obtain ⟨hk1, hk2⟩ := hk
  rw [← hk2] at hc
  have HC := keep hc
  clear hc hk2
  generalize ckAt s s.size = n at *
  go_enter Try.func56, Try.ntmps56
  go_wp2_with fail
  refine HC.out.mono ?_
  rintro e w' ⟨rfl, rfl⟩
  have hcv : (convert 50 9 (.slice (some ⟨w'.heap.size, 0, none⟩) 2 2)).run Try.prog (w'.alloc (.cells #[.int .u8 ((n : Int) % 256), .int .u8 ((n : Int) / 256)] 5)) =
      .ok (.string ⟨#[UInt8.ofNat ((n : Int) % 256).toNat, UInt8.ofNat ((n : Int) / 256).toNat]⟩) (w'.alloc (.cells #[.int .u8 ((n : Int) % 256), .int .u8 ((n : Int) / 256)] 5)) := run_str w' [(n : Int) % 256, (n : Int) / 256] 2 (by
    intro v hv
    simp only [List.mem_cons, List.not_mem_nil, or_false] at hv
    rcases hv with rfl | rfl <;> omega)
  have e1 : ((n : Int) % 256).toNat = n % 256 := by omega
  have e2 : ((n : Int) / 256).toNat = n / 256 := by omega
  rw [e1, e2] at hcv
  clear e1 e2
  go_wp2_with fail
  go_ret
  exact ⟨rfl, by go_grown⟩

theorem and255 (n : Nat) (h : n < 2 ^ 63) : bits .and .i64 (n : Int) 255 = (n : Int) % 256 := by
  have h1 := (bits_nat .i64 63 (by decide) wraps_i64 n 255 h (by decide)).1
  rw [show ((255 : Nat) : Int) = 255 from rfl] at h1
  rw [h1, show (255 : Nat) = 2 ^ 8 - 1 from rfl, Nat.and_two_pow_sub_one_eq_mod]
  omega

set_option maxHeartbeats 1000000 in
set_option maxRecDepth 20000 in
theorem l01Bits_any (b : Nat) (w : World) (hb : (b : Int) < two32) (hf : fin .f32 b = true) :
    Calls Try.prog 117 #[.float .f32 b] w fun e w' => e = .returned (.int .i64 b) ∧ w' = w := by
  have ho := order_self (fin_not_nan hf)
  have hw : IntKind.i64.wrap (b : Int) = b := wraps_i64 _ (by omega) (by unfold two32 at hb; omega)
  have HB := keep hb
  clear hb hf
  go_enter Try.func117, Try.ntmps117
  go_wp2
  go_ret
  exact ⟨rfl, rfl⟩

/-- The four bytes of a number, the least first. -/
def four (b : Nat) : List UInt8 := [UInt8.ofNat (b % 256), UInt8.ofNat (b / 256 % 256), UInt8.ofNat (b / 65536 % 256), UInt8.ofNat (b / 16777216 % 256)]

/-- They, as a text of four bytes. -/
def fourB (b : Nat) : ByteArray := ⟨(four b).toArray⟩
@[go_sem] theorem fourB_size (b : Nat) : (fourB b).size = 4 := rfl

set_option maxHeartbeats 1000000 in
set_option maxRecDepth 20000 in
theorem l10Four_any (b : Nat) (w : World) (hb : (b : Int) < two32) (hf : fin .f32 b = true) :
    Calls Try.prog 109 #[.float .f32 b] w fun e w' => e = .returned (.string (fourB b)) ∧ Below w.heap.size w w' := by
  have HC := keep (l01Bits_any b w hb hf)
  have hlt : b < 4294967296 := by unfold two32 at hb; omega
  have a0 := and255 b (by omega)
  have a1 := and255 (b / 256) (by omega)
  have a2 := and255 (b / 65536) (by omega)
  have a3 := and255 (b / 16777216) (by omega)
  have q1 : ((b / 256 : Nat) : Int) = (b : Int) / 256 := by omega
  have q2 : ((b / 65536 : Nat) : Int) = (b : Int) / 65536 := by omega
  have q3 : ((b / 16777216 : Nat) : Int) = (b : Int) / 16777216 := by omega
  rw [q1] at a1
  rw [q2] at a2
  rw [q3] at a3
  have hcv : (convert 50 9 (.slice (some ⟨w.heap.size, 0, none⟩) 4 4)).run Try.prog (w.alloc (.cells #[.int .u8 ((b : Int) % 256), .int .u8 ((b : Int) / 256 % 256), .int .u8 ((b : Int) / 65536 % 256), .int .u8 ((b : Int) / 16777216 % 256)] 5)) =
      .ok (.string ⟨#[UInt8.ofNat ((b : Int) % 256).toNat, UInt8.ofNat ((b : Int) / 256 % 256).toNat, UInt8.ofNat ((b : Int) / 65536 % 256).toNat, UInt8.ofNat ((b : Int) / 16777216 % 256).toNat]⟩) (w.alloc (.cells #[.int .u8 ((b : Int) % 256), .int .u8 ((b : Int) / 256 % 256), .int .u8 ((b : Int) / 65536 % 256), .int .u8 ((b : Int) / 16777216 % 256)] 5)) := run_str w [(b : Int) % 256, (b : Int) / 256 % 256, (b : Int) / 65536 % 256, (b : Int) / 16777216 % 256] 4 (by
    intro v hv
    simp only [List.mem_cons, List.not_mem_nil, or_false] at hv
    rcases hv with rfl | rfl | rfl | rfl <;> omega)
  rw [show ((b : Int) % 256).toNat = b % 256 by omega, show ((b : Int) / 256 % 256).toNat = b / 256 % 256 by omega, show ((b : Int) / 65536 % 256).toNat = b / 65536 % 256 by omega, show ((b : Int) / 16777216 % 256).toNat = b / 16777216 % 256 by omega] at hcv
  have HB := keep hb
  have hbb : (b : Int) ≤ 4294967295 := by omega
  clear hb hf hlt q1 q2 q3
  go_enter Try.func109, Try.ntmps109
  go_wp2_with fail
  refine HC.out.mono ?_
  rintro e w' ⟨rfl, rfl⟩
  go_wp2_with fail
  go_ret
  exact ⟨rfl, by go_grown⟩
end Go.Proofs.Ytafaabhnkjjkcaa
