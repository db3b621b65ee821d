/- Contracts: a text cut at a mark; its complete lines. -/
import Derived.Test.YtldnldgndjbhfaaDoorTp
namespace Go.Proofs.YtldnldgndjbhfaaDoor
open Go.RowKit Go.Sort
set_option linter.unusedSimpArgs false

/-- A text of these bytes. -/
def tx (l : List UInt8) : ByteArray := ⟨l.toArray⟩

theorem tx_piece (s : ByteArray) (k i : Nat) : s.extract k i = tx ((s.data.toList.drop k).take (i - k)) := by
  apply ByteArray.ext
  apply Array.ext'
  unfold tx
  simp [List.extract_eq_take_drop]
theorem tx_bytes (l : List UInt8) : (tx l).data.toList = l := by unfold tx; simp
theorem tx_of (s : ByteArray) : s = tx s.data.toList := by
  apply ByteArray.ext
  unfold tx
  simp
theorem tx_size (l : List UInt8) : (tx l).size = l.length := by
  rw [← bytes_len, tx_bytes]
theorem take_more (l : List UInt8) (k i : Nat) (hk : k ≤ i) (hi : i < l.length) : (l.drop k).take (i + 1 - k) = (l.drop k).take (i - k) ++ [l[i]] := by
  rw [show i + 1 - k = (i - k) + 1 by omega, List.take_succ_eq_append_getElem (by rw [List.length_drop]; omega)]
  congr 2
  rw [List.getElem_drop]
  congr 1
  omega
theorem sv_snoc (dn : List (List UInt8)) (x : List UInt8) : sv ((dn ++ [x]).map tx) = sv (dn.map tx) ++ [.string (tx x)] := by
  unfold sv; simp
theorem new_cell {w : World} {t : TypeId} {x : Value} : ∀ j u, [x][j]? = some u → (w.alloc (.cells #[x] t)).cell? ((⟨w.heap.size, 0, none⟩ : Addr).add j) = some u := by
  intro j u hj
  have : j = 0 := by
    by_cases h : j = 0
    · exact h
    · rw [List.getElem?_eq_none (by simp; omega)] at hj; cases hj
  subst this
  simp at hj
  subst hj
  have h := heap_alloc_new w (.cells #[x] t)
  unfold Addr.add World.cell?
  simp only [if_pos]
  rw [h]
  rfl

end Go.Proofs.YtldnldgndjbhfaaDoor
