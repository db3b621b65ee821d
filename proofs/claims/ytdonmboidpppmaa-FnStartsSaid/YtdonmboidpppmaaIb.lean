/- Contract: a list with the opposite speeds. -/
import Derived.Test.YtdonmboidpppmaaIa
namespace Go.Proofs.Ytdonmboidpppmaa
open Go.RowKit Go.Sort Ieee
set_option linter.unusedSimpArgs false

theorem psCells_ext (l : List Value) (qs : List PD) (hl : l.length = qs.length * 4) (h : ∀ k (hk : k < qs.length) j, j < 4 → l[k * 4 + j]? = qs[k].cells[j]?) : l = psCells qs := by
  apply List.ext_getElem?
  intro n
  by_cases hn : n < qs.length * 4
  · have e : n = n / 4 * 4 + n % 4 := by omega
    have hk : n / 4 < qs.length := by omega
    rw [e, h _ hk _ (by omega), psCells_at qs _ hk _ (by omega)]
  · rw [List.getElem?_eq_none (by omega), List.getElem?_eq_none (by rw [psCells_length]; omega)]

/-- Of the first i particles one cell is changed. -/
def Mixed (f : PD → PD) (ps : List PD) (i : Nat) (cur : Array Value) : Prop := ∀ k (hk : k < ps.length) j, j < 4 → cur[k * 4 + j]? = (if k < i then f ps[k] else ps[k]).cells[j]?

theorem Mixed.start {f : PD → PD} {ps : List PD} {cur : Array Value} (h : cur.toList.take (ps.length * 4) = psCells ps) : Mixed f ps 0 cur := by
  intro k hk j hj
  rw [if_neg (by omega), ← psCells_at ps k hk j hj, ← h, List.getElem?_take_of_lt (by omega), Array.getElem?_toList]
theorem Mixed.step {f : PD → PD} {ps : List PD} {i : Nat} {cur : Array Value} (h : Mixed f ps i cur) (hi : i < ps.length) (c : Nat) (V : Value) (hc : c < 4) (hs : i * 4 + c < cur.size) (h1 : (f ps[i]).cells[c]? = some V) (h2 : ∀ j, j < 4 → j ≠ c → (f ps[i]).cells[j]? = ps[i].cells[j]?) : Mixed f ps (i + 1) (cur.setIfInBounds (i * 4 + c) V) := by
  intro k hk j hj
  by_cases hki : k = i
  · subst hki
    rw [if_pos (by omega)]
    by_cases hjc : j = c
    · subst hjc
      rw [Array.getElem?_setIfInBounds_self_of_lt hs, h1]
    · rw [Array.getElem?_setIfInBounds_ne (by omega), h2 j hj hjc, h k hk j hj, if_neg (by omega)]
  · rw [Array.getElem?_setIfInBounds_ne (by omega), h k hk j hj]
    by_cases hlt : k < i
    · rw [if_pos hlt, if_pos (by omega)]
    · rw [if_neg hlt, if_neg (by omega)]
theorem Mixed.done {f : PD → PD} {ps : List PD} {cur : Array Value} (h : Mixed f ps ps.length cur) (hs : ps.length * 4 ≤ cur.size) : cur.toList.take (ps.length * 4) = psCells (ps.map f) := by
  refine psCells_ext _ _ ?_ fun k hk j hj => ?_
  · rw [List.length_take, List.length_map]
    have : cur.toList.length = cur.size := rfl
    omega
  · rw [List.length_map] at hk
    rw [List.getElem?_take_of_lt (by omega), Array.getElem?_toList, h k hk j hj, if_pos hk, List.getElem_map]

end Go.Proofs.Ytdonmboidpppmaa
