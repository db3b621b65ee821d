/- Contracts: fields scaled, added. -/
import Derived.Test.YtnmdgbnophclnaaMc
namespace Go.Proofs.Ytnmdgbnophclnaa
open Go.RowKit Go.Sort Ieee
set_option linter.unusedSimpArgs false

def CurF (k : Nat) (cur : Array Value) (l : List Int) : Prop := l.length ≤ cur.size ∧ ∀ i (h : i < l.length), cur[i]? = some (.float .f32 (wd single k l[i]))
theorem CurF.start {k : Nat} {cur : Array Value} {fs : List Int} (hs : fs.length ≤ cur.size) (h : cur.toList.take fs.length = fList k fs) : CurF k cur fs := by
  refine ⟨hs, fun i hi => ?_⟩
  rw [← fList_at k fs i hi, ← h, List.getElem?_take_of_lt hi, Array.getElem?_toList]
theorem CurF.step {k : Nat} {cur : Array Value} {l : List Int} (h : CurF k cur l) (j : Nat) (hj : j < l.length) (n : Int) : CurF k (cur.setIfInBounds j (.float .f32 (wd single k n))) (l.set j n) := by
  refine ⟨by rw [List.length_set]; simpa using h.1, fun i hi => ?_⟩
  rw [List.length_set] at hi
  by_cases e : i = j
  · subst e
    rw [Array.getElem?_setIfInBounds_self_of_lt (by have := h.1; omega), List.getElem_set_self]
  · rw [Array.getElem?_setIfInBounds_ne (by omega), List.getElem_set_ne (by omega)]
    exact h.2 i hi
theorem CurF.fld {w : World} {g k : Nat} {cur : Array Value} {l : List Int} (h : CurF k cur l) (hh : Has w g 27 cur) : FldAt w g k l := ⟨hh.in_heap, fun i hi => (hh.cells i).trans (h.2 i hi)⟩
/-- The first j of a list are another list's. -/
def mixL (out fs : List Int) (j : Nat) : List Int := out.take j ++ fs.drop j
theorem mixL_length (out fs : List Int) (j : Nat) (h : out.length = fs.length) (hj : j ≤ fs.length) : (mixL out fs j).length = fs.length := by
  unfold mixL; rw [List.length_append, List.length_take, List.length_drop]; omega
theorem mixL_step (out fs : List Int) (j : Nat) (h : out.length = fs.length) (hj : j < fs.length) : (mixL out fs j).set j (out[j]'(by omega)) = mixL out fs (j + 1) := by
  unfold mixL
  have ht : (out.take j).length = j := by rw [List.length_take]; omega
  rw [List.set_append_right _ _ (by omega), ht, Nat.sub_self, List.drop_eq_getElem_cons hj, List.set_cons_zero, List.take_succ_eq_append_getElem (by omega), List.append_assoc]
  rfl
theorem mixL_at (out fs : List Int) (j : Nat) (h : out.length = fs.length) (hj : j < fs.length) : (mixL out fs j)[j]'(by rw [mixL_length out fs j h (by omega)]; exact hj) = fs[j] := by
  unfold mixL
  have ht : (out.take j).length = j := by rw [List.length_take]; omega
  rw [List.getElem_append_right (by omega)]
  simp only [ht, Nat.sub_self, List.getElem_drop, Nat.add_zero]
theorem mixL_zero (out fs : List Int) : mixL out fs 0 = fs := by unfold mixL; simp
theorem mixL_full (out fs : List Int) (h : out.length = fs.length) : mixL out fs fs.length = out := by unfold mixL; rw [List.drop_length, List.append_nil, ← h, List.take_length]

theorem fmul_pos {k l : Nat} {a b : Int} (hk : k ≤ 50) (hl : l ≤ 50) (hb : 0 < b) (ha2 : a.natAbs < 16777216) (hb2 : b.natAbs < 16777216) (hn : (a * b).natAbs < 16777216) : floatBits .mul .f32 (wd single k a) (wd single l b) = some (wd single (k + l) (a * b)) := by
  by_cases h0 : a = 0
  · subst h0
    exact fmul (Int.le_refl 0) (by omega) (by omega) (by omega) (by omega) hb2 hn
  · obtain ⟨r, e, hr, hrl⟩ := mul_is (f := single) fit_single binade_le_single (k := k) (l := l) (a := a) (b := b) (by show k + 23 ≤ 149; omega) (by show l + 23 ≤ 149; omega) (by show k + l + 23 ≤ 149; omega) ha2 hb2 hn
    rw [show floatBits .mul .f32 (wd single k a) (wd single l b) = single.mul (wd single k a) (wd single l b) from rfl, e, hr.unique binade_le_single hrl (fun e => by rcases Int.mul_eq_zero.1 e with h | h <;> omega)]
theorem fmul_pos' {k l : Nat} {a b : Int} (hk : k ≤ 50) (hl : l ≤ 50) (hb : 0 < b) (ha2 : a.natAbs < 16777216) (hb2 : b.natAbs < 16777216) (hn : (b * a).natAbs < 16777216) : floatBits .mul .f32 (wd single l b) (wd single k a) = some (wd single (l + k) (b * a)) := by
  by_cases h0 : a = 0
  · subst h0
    exact fmul (by omega) (Int.le_refl 0) (by omega) (by omega) hb2 (by omega) hn
  · obtain ⟨r, e, hr, hrl⟩ := mul_is (f := single) fit_single binade_le_single (k := l) (l := k) (a := b) (b := a) (by show l + 23 ≤ 149; omega) (by show k + 23 ≤ 149; omega) (by show l + k + 23 ≤ 149; omega) hb2 ha2 hn
    rw [show floatBits .mul .f32 (wd single l b) (wd single k a) = single.mul (wd single l b) (wd single k a) from rfl, e, hr.unique binade_le_single hrl (fun e => by rcases Int.mul_eq_zero.1 e with h | h <;> omega)]
def dbl (fs : List Int) : List Int := fs.map fun n => 2 * n
theorem dbl_length (fs : List Int) : (dbl fs).length = fs.length := List.length_map _
theorem dbl_at (fs : List Int) (j : Nat) (h : j < fs.length) : (dbl fs)[j]'(by rw [dbl_length]; exact h) = 2 * fs[j] := by unfold dbl; rw [List.getElem_map]
theorem Small.dbl {fs : List Int} {M : Nat} (h : Small fs M) : Small (dbl fs) (2 * M) := by
  intro n hn
  obtain ⟨x, hx, rfl⟩ := List.mem_map.1 hn
  have := h x hx
  omega
theorem two_word2 : (1073741824 : Nat) = wd single 0 2 := two_word

end Go.Proofs.Ytnmdgbnophclnaa
