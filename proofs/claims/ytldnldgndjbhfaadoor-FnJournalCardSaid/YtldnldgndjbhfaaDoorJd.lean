/- The journal of some texts: the program's and the reference's functions by their contracts. The table of powers of ten is a premise. -/
import Derived.Test.YtldnldgndjbhfaaDoorJc
import Derived.Deep.DeepCutAuto
import Derived.Deep.RegionWith
import Derived.Deep.RegionHeld3
namespace Go.Proofs.YtldnldgndjbhfaaDoor
open Go.RowKit Go.Sort

abbrev P10 (w : World) : Prop := Lib.TabIs Tryd.prog w "internal/strconv.uint64pow10" .u64 Lib.pow10Tab

/-- A journal's line: the check number in decimal, a blank, the text, a new line. -/
def jl (n : Int) (l : List UInt8) : List UInt8 := Lib.itoa (ck n l) ++ 32 :: (l ++ [10])

theorem cat_bytes (a b : ByteArray) : (a ++ b).data.toList = a.data.toList ++ b.data.toList := by simp

theorem jl_bytes (n : Int) (s : ByteArray) : (((⟨(Lib.itoa (ck n s.data.toList)).toArray⟩ : ByteArray) ++ ⟨#[32]⟩) ++ s) ++ ⟨#[10]⟩ = ⟨(jl n s.data.toList).toArray⟩ := by
  apply ByteArray.ext
  apply Array.ext'
  simp [jl]

theorem itoa_len (c : Nat) (h : c ≤ 65002) : 1 ≤ (Lib.itoa c).length ∧ (Lib.itoa c).length ≤ 5 := by
  rw [Lib.itoa_nonneg, Lib.decDigits_length]
  refine ⟨Lib.nDigits_pos c, ?_⟩
  by_cases h1 : c < 10
  · rw [Lib.nDigits_small h1]; omega
  rw [Lib.nDigits_big h1]
  by_cases h2 : c / 10 < 10
  · rw [Lib.nDigits_small h2]; omega
  rw [Lib.nDigits_big h2]
  by_cases h3 : c / 10 / 10 < 10
  · rw [Lib.nDigits_small h3]; omega
  rw [Lib.nDigits_big h3]
  by_cases h4 : c / 10 / 10 / 10 < 10
  · rw [Lib.nDigits_small h4]; omega
  rw [Lib.nDigits_big h4]
  rw [Lib.nDigits_small (by omega)]; omega
theorem jl_len (n : Int) (l : List UInt8) (h0 : 0 ≤ n) (h1 : n ≤ 65002) : l.length + 3 ≤ (jl n l).length ∧ (jl n l).length ≤ l.length + 7 := by
  obtain ⟨hb0, hb1⟩ := ck_bound n l h0 h1
  obtain ⟨c, hc⟩ : ∃ c : Nat, ck n l = c := ⟨(ck n l).toNat, by omega⟩
  have := itoa_len c (by omega)
  unfold jl
  rw [hc]
  simp
  omega

set_option maxHeartbeats 1000000 in
theorem journalLine_any (n : Int) (s : ByteArray) (w : World) (hs : s.size ≤ 100000000) (h0 : 0 ≤ n) (h1 : n ≤ 65002) (htab : P10 w) :
    Calls Tryd.prog 15 #[.int .i64 n, .string s] w fun e w' => e = .returned (.tuple #[.string ⟨(jl n s.data.toList).toArray⟩, .int .i64 (ck n s.data.toList)]) ∧ Below w.heap.size w w' := by
  have HJ := keep (jl_bytes n s)
  have HC := keep (CheckOf_any n s w hs h0 h1)
  obtain ⟨c, hc⟩ : ∃ c : Nat, ck n s.data.toList = c := ⟨(ck n s.data.toList).toNat, by have := (ck_bound n s.data.toList h0 h1).1; omega⟩
  have hcb : c ≤ 65002 := by have := (ck_bound n s.data.toList h0 h1).2; omega
  have HD := keep (Decimal_any c w hcb htab)
  rw [hc] at HC HJ
  have HE := keep hc
  have hsz : (⟨(Lib.itoa (c : Int)).toArray⟩ : ByteArray).size ≤ 5 := by have := (itoa_len c hcb).2; simpa [ByteArray.size] using this
  generalize (⟨(Lib.itoa (c : Int)).toArray⟩ : ByteArray) = D at *
  clear htab hc h0 h1
  go_enter Tryd.func15, Tryd.ntmps15
  go_wp2_with fail
  refine HC.out.mono ?_
  rintro e w' ⟨rfl, rfl⟩
  go_wp2_with fail
  refine HD.out.mono ?_
  rintro e w1 ⟨rfl, hb⟩
  go_wp2_with fail
  go_ret2
  refine ⟨?_, hb⟩
  rw [HE.out, ← HJ.out]
  rfl
end Go.Proofs.YtldnldgndjbhfaaDoor
