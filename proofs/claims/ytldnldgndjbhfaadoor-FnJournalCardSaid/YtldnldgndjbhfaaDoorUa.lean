/- Contracts: a number in hexadecimal digits (the library's FormatInt at base 16). The table of trailing zeros is a premise. -/
import Derived.Test.YtldnldgndjbhfaaDoorJe
import Derived.Test.YtldnldgndjbhfaaDoorTt
import Derived.Test.YtldnldgndjbhfaaDoorWords
import Derived.Laws.Bits64b
namespace Go.Proofs.YtldnldgndjbhfaaDoor
open Go.RowKit Go.Sort
set_option linter.unusedSimpArgs false

/-- A hexadecimal digit; the digits of a number. -/
def hx (d : Nat) : UInt8 := if d < 10 then UInt8.ofNat (48 + d) else UInt8.ofNat (87 + d)
def hexD (n : Nat) : List UInt8 := if h : n < 16 then [hx n] else hexD (n / 16) ++ [hx (n % 16)]
termination_by n
decreasing_by omega
theorem hexD_one {n : Nat} (h : n < 16) : hexD n = [hx n] := by rw [hexD, dif_pos h]
theorem hexD_more {n : Nat} (h : ¬ n < 16) : hexD n = hexD (n / 16) ++ [hx (n % 16)] := by rw [hexD, dif_neg h]

theorem hexD_len (k n : Nat) (hk : 1 ≤ k) (h : n < 16 ^ k) : 1 ≤ (hexD n).length ∧ (hexD n).length ≤ k := by
  induction k generalizing n with
  | zero => omega
  | succ k ih =>
    by_cases h1 : n < 16
    · rw [hexD_one h1]; simp
    · rw [hexD_more h1]
      by_cases hk0 : k = 0
      · subst hk0; simp at h; omega
      · have := ih (n / 16) (by omega) (by rw [Nat.pow_succ] at h; omega)
        simp
        omega
theorem and15_u64 (u : Nat) (h : u < 4294967296) : bits .and .u64 (u : Int) 15 = ((u % 16 : Nat) : Int) := by
  have e := bits_and_u64_nat u 15 (by omega) (by omega)
  have e2 : u &&& 15 = u % 16 := Nat.and_two_pow_sub_one_eq_mod u 4
  rw [e2] at e
  exact e

/-- The digits of the library, by place. -/
def digitsT : ByteArray := ⟨#[48, 49, 50, 51, 52, 53, 54, 55, 56, 57, 97, 98, 99, 100, 101, 102, 103, 104, 105, 106, 107, 108, 109, 110, 111, 112, 113, 114, 115, 116, 117, 118, 119, 120, 121, 122]⟩
theorem digitsT_at : ∀ d : Fin 16, digitsT.data[d.val]? = some (hx d.val) := by decide +kernel

theorem digit_get (d : Nat) (h : d < 16) (h2 : d < digitsT.size) : digitsT[d]'h2 = hx d := by
  have e := digitsT_at ⟨d, h⟩
  have e2 : digitsT.data[d]? = some (digitsT[d]'h2) := Array.getElem?_eq_getElem (by exact h2)
  rw [e2] at e
  exact Option.some.inj e

/-- The one cell of the table that is read. -/
def TZ (w : World) : Prop := w.cell? ⟨4, 15, none⟩ = some (.int .u8 4)

theorem isPow_16 (w : World) : Calls Tryd.prog 76 #[.int .i64 16] w fun e w' => e = .returned (.bool true) ∧ w' = w := by
  go_enter Tryd.func76, Tryd.ntmps76
  have b1 : bits .and .i64 16 15 = 0 := by decide +kernel
  go_wp2_with fail
  go_ret
  exact ⟨rfl, rfl⟩

theorem tz64_16 (w : World) (h : TZ w) : Calls Tryd.prog 79 #[.int .u64 16] w fun e w' => e = .returned (.int .i64 4) ∧ w' = w := by
  unfold TZ at h
  have u1 : IntKind.u64.wrap (-16) = 18446744073709551600 := by decide +kernel
  have u2 : bits .and .u64 16 18446744073709551600 = 16 := by decide +kernel
  have u3 : IntKind.u64.wrap 4573923408821661840 = 4573923408821661840 := by decide +kernel
  go_enter Tryd.func79, Tryd.ntmps79
  go_wp2_with fail
  go_ret
  exact ⟨rfl, rfl⟩

theorem tz_16 (w : World) (h : TZ w) : Calls Tryd.prog 77 #[.int .u64 16] w fun e w' => e = .returned (.int .i64 4) ∧ w' = w := by
  have T := keep (tz64_16 w h)
  clear h
  go_enter Tryd.func77, Tryd.ntmps77
  go_wp2_with fail
  refine T.out.mono ?_
  rintro e w' ⟨rfl, hw⟩
  have hw := hw.symm
  subst hw
  go_wp2_with fail
  go_ret
  exact ⟨rfl, rfl⟩

/-- The digits stand at an array's end. -/
def Tail (cur : Array Value) (i : Nat) (out : List UInt8) : Prop := i + out.length = 65 ∧ cur.size = 65 ∧ ∀ j (h : j < out.length), cur[i + j]? = some (.int .u8 (out[j].toNat : Int))
theorem Tail.push {cur : Array Value} {i : Nat} {out : List UInt8} (h : Tail cur (i + 1) out) (b : UInt8) : Tail (cur.setIfInBounds i (.int .u8 (b.toNat : Int))) i (b :: out) := by
  obtain ⟨h1, h2, h3⟩ := h
  refine ⟨by simp; omega, by simpa using h2, fun j hj => ?_⟩
  cases j with
  | zero => rw [Nat.add_zero, Array.getElem?_setIfInBounds_self_of_lt (by omega)]; rfl
  | succ j =>
    rw [Array.getElem?_setIfInBounds_ne (by omega)]
    have h := h3 j (by simpa using hj)
    rw [show i + (j + 1) = i + 1 + j by omega]
    exact h

set_option maxHeartbeats 4000000 in
set_option maxRecDepth 20000 in
theorem formatBits_16 (n : Nat) (hn : n < 4294967296) (w : World) (ht : TZ w) :
    Calls Tryd.prog 72 #[.slice none 0 0, .int .u64 n, .int .i64 16, .bool false, .bool false] w fun e w' => e = .returned (.tuple #[.slice none 0 0, .string (tx (hexD n))]) ∧ Below w.heap.size w w' := by
  have IP := keep (fun w => isPow_16 w)
  have TR := keep (fun w h => tz_16 w h)
  have HT := keep ht
  clear ht
  go_enter Tryd.func72, Tryd.ntmps72
  go_wp2_with fail
  refine (IP.out _).mono ?_
  rintro e w1 ⟨rfl, hw⟩
  have hw := hw.symm
  subst hw
  have hh := Has.made w 113 (Tryd.zeroCells113)
  have hzs : (Tryd.zeroCells113).size = 65 := by kernel_rfl
  have b0 : Below w.heap.size w (w.alloc (.cells Tryd.zeroCells113 113)) := (Below.refl _ w).alloc (Nat.le_refl _) _
  have TZ1 : TZ (w.alloc (.cells Tryd.zeroCells113 113)) := by
    have h := HT.out
    unfold TZ at *
    rw [b0.cell (p := ⟨4, 15, none⟩) (World.block_lt_of_cell? w _ h)]
    exact h
  have HH := keep hh
  have B0 := keep b0
  clear hh b0 HT IP
  generalize hzc : Tryd.zeroCells113 = zc at *
  clear hzc
  go_wp2_with fail
  refine (TR.out _ TZ1).mono ?_
  rintro e w1 ⟨rfl, hw⟩
  have hw := hw.symm
  subst hw
  clear TR TZ1
  go_wp2_with fail
  have HL := keep (hexD_len 8 n (by omega) (by omega))
  go_loopw [1, 13] (fun uu ii wr => ∃ (u i : Nat) (out : List UInt8) (cur : Array Value), uu = .int .u64 u ∧ ii = .int .i64 i ∧ u < 4294967296 ∧ Kept (Tail cur i out) ∧ Kept (Has wr w.heap.size 113 cur) ∧ Kept (hexD u ++ out = hexD n) ∧ Kept (Below w.heap.size w wr)) (fun uu _ _ => (intOf uu).toNat)
  case atStart => exact ⟨n, 65, [], zc, rfl, rfl, hn, keep ⟨by simp, hzs, fun j hj => by simp at hj⟩, HH, keep (by simp), B0⟩
  case round =>
    clear HH B0 hzs
    obtain ⟨u, i, out, cur, rfl, rfl, hu, htl, hh, hd, hb⟩ := hrel
    have hlen := congrArg List.length hd.out
    rw [List.length_append] at hlen
    have h8 := HL.out
    have hi65 := htl.out.1
    have hu8 := hexD_len 8 u (by omega) (by omega)
    have hbs := hb.out.size
    by_cases hge : 16 ≤ u
    · have hgeI : (16 : Int) ≤ (u : Int) := by omega
      have a15 := and15_u64 u hu
      have m16 : ((u % 16 : Nat) : Int) < 36 := by omega
      have iw : IntKind.i64.wrap ((i : Int) - 1) = ((i - 1 : Nat) : Int) := by rw [IntWalk.i64_in _ ⟨by omega, by omega⟩]; omega
      obtain ⟨y, hy⟩ : ∃ y, cur[i - 1]? = some y := ⟨cur[i - 1]'(by have := htl.out.2.1; omega), Array.getElem?_eq_getElem (by have := htl.out.2.1; omega)⟩
      have ci := (hh.out.cells (i - 1)).trans hy
      have fi' := hh.out.free (i - 1)
      have hds : u % 16 < digitsT.size := Nat.lt_of_lt_of_le (Nat.mod_lt _ (by decide)) (by decide)
      have hu16 : u / 16 < 4294967296 := by omega
      have hT := keep (show Tail cur (i - 1 + 1) out by rw [Nat.sub_add_cancel (by omega)]; exact htl.out)
      have HX := keep (show hexD (u / 16) ++ (hx (u % 16) :: out) = hexD n by
        rw [← hd.out, hexD_more (n := u) (by omega)]; simp)
      have HW := keep (fun v => hh.out.written (i - 1) v)
      have HB := keep (fun v => hb.out.setCell (p := ⟨w.heap.size, i - 1, none⟩) (Nat.le_refl _) v)
      clear hh hd htl hlen hu8 h8 hb
      go_wp2_with fail
      go_roundw
      case rel =>
        refine ⟨u / 16, i - 1, digitsT[u % 16]'hds :: out, _, by go_num, rfl, hu16, keep (hT.out.push _), keep (HW.out _), keep ?_, keep (HB.out _)⟩
        rw [digit_get _ (Nat.mod_lt _ (by decide))]
        exact HX.out
      case measure => simp [intOf]; omega
    · have hlt : u < 16 := by omega
      have hltI : ¬ (16 : Int) ≤ (u : Int) := by omega
      have m16 : (u : Int) < 36 := by omega
      have iw : IntKind.i64.wrap ((i : Int) - 1) = ((i - 1 : Nat) : Int) := by rw [IntWalk.i64_in _ ⟨by omega, by omega⟩]; omega
      obtain ⟨y, hy⟩ : ∃ y, cur[i - 1]? = some y := ⟨cur[i - 1]'(by have := htl.out.2.1; omega), Array.getElem?_eq_getElem (by have := htl.out.2.1; omega)⟩
      have ci := (hh.out.cells (i - 1)).trans hy
      have fi' := hh.out.free (i - 1)
      have hT := keep (show Tail cur (i - 1 + 1) out by rw [Nat.sub_add_cancel (by omega)]; exact htl.out)
      have HX := keep (show hx u :: out = hexD n by rw [← hd.out, hexD_one hlt]; rfl)
      have HW := keep (fun v => hh.out.written (i - 1) v)
      have HB := keep (fun v => hb.out.setCell (p := ⟨w.heap.size, i - 1, none⟩) (Nat.le_refl _) v)
      have hi1 : ((i - 1 : Nat) : Int) ≤ 65 := by omega
      clear hh hd htl hlen hu8 h8 hb
      have hds : u < digitsT.size := Nat.lt_of_lt_of_le hlt (by decide)
      have HT2 := hT.out.push (digitsT[u]'hds)
      rw [digit_get u hlt hds, HX.out] at HT2
      have hl : (hexD n).length = 65 - (i - 1) := by have := HT2.1; omega
      have hHas := HW.out (.int .u8 ((hx u).toNat : Int))
      have hcv := run_convert_bytes_back (P := Tryd.prog) (wr.setCell ⟨w.heap.size, i - 1, none⟩ (.int .u8 ((digitsT[u]'hds).toNat : Int))) 22 9 5 ⟨w.heap.size, i - 1, none⟩ (65 - (i - 1)) (hexD n) Tryd.underlying22 Tryd.underlying5 Tryd.underlying9 (fun j hj => by
        rw [digit_get u hlt hds, Addr.add_lit, hHas.cells]
        exact HT2.2.2 j hj)
      rw [hl] at hcv
      have HB2 := keep (HB.out (.int .u8 ((digitsT[u]'hds).toNat : Int)))
      clear HT2 hl hHas HW HB hT HX
      unfold digitsT at hcv HB2
      go_wp2_with fail
      first | rw [hcv] | erw [hcv] | simp only [hcv]
      go_wp2_with fail
      go_ret2
      exact ⟨rfl, HB2.out⟩
end Go.Proofs.YtldnldgndjbhfaaDoor
