/- Contracts: a text split, and a text cut, at any mark. -/
import Derived.Test.YtldnldgndjbhfaaDoorUe
import Derived.Lib.SplitLaws
namespace Go.Proofs.YtldnldgndjbhfaaDoor
open Go.RowKit Go.Sort
set_option linter.unusedSimpArgs false

/-- The place of the first mark, or the length. -/
def gi (m : UInt8) (l : List UInt8) : Nat := (l.takeWhile (fun b => b != m)).length
theorem gi_le (m : UInt8) (l : List UInt8) : gi m l ≤ l.length := by
  unfold gi
  exact (List.takeWhile_sublist _).length_le
theorem gi_cons (m b : UInt8) (r : List UInt8) : gi m (b :: r) = if b = m then 0 else gi m r + 1 := by
  unfold gi
  by_cases h : b = m
  · rw [List.takeWhile_cons_of_neg (by simpa using h), if_pos h]; rfl
  · rw [List.takeWhile_cons_of_pos (by simpa using h), if_neg h]; rfl
theorem gi_take (m : UInt8) (l : List UInt8) : ∀ b ∈ l.take (gi m l), b ≠ m := by
  induction l with
  | nil => simp
  | cons a r ih =>
    rw [gi_cons]
    split
    · simp
    · intro b hb
      rw [List.take_succ_cons] at hb
      rcases List.mem_cons.1 hb with rfl | h
      · assumption
      · exact ih b h
theorem gi_split (m : UInt8) (l : List UInt8) (h : gi m l < l.length) : l = l.take (gi m l) ++ m :: l.drop (gi m l + 1) := by
  induction l with
  | nil => simp [gi] at h
  | cons a r ih =>
    rw [gi_cons] at h ⊢
    by_cases ha : a = m
    · simp [ha]
    · rw [if_neg ha] at h ⊢
      rw [List.take_succ_cons, List.drop_succ_cons, List.cons_append, ← ih (by simpa using h)]
theorem gi_none (m : UInt8) (l : List UInt8) (h : ¬ gi m l < l.length) : ∀ b ∈ l, b ≠ m := by
  intro b hb
  refine gi_take m l b ?_
  rwa [List.take_of_length_le (by omega)]
theorem index_gi (m : UInt8) (l : List UInt8) : Lib.indexByte l m = if gi m l < l.length then (gi m l : Int) else -1 := by
  induction l with
  | nil => rfl
  | cons a r ih =>
    show (if a == m then 0 else if Lib.indexByte r m == -1 then -1 else Lib.indexByte r m + 1) = _
    rw [ih, gi_cons]
    by_cases ha : a = m
    · subst ha; simp
    · rw [if_neg (show ¬ (a == m) = true by simpa using ha), if_neg ha]
      by_cases h : gi m r < r.length
      · have h1 : gi m r + 1 < (a :: r).length := by rw [List.length_cons]; omega
        rw [if_pos h, if_pos h1, if_neg (show ¬ ((gi m r : Int) == -1) = true by rw [beq_iff_eq]; omega)]
        omega
      · have h1 : ¬ gi m r + 1 < (a :: r).length := by rw [List.length_cons]; omega
        rw [if_neg h, if_neg h1]; rfl
theorem indexB_gi (m : UInt8) (s : ByteArray) : Lib.indexB s ⟨#[m]⟩ = if gi m s.data.toList < s.data.toList.length then (gi m s.data.toList : Int) else -1 := by
  rw [← index_gi]
  exact Lib.index_one s.data.toList m
theorem splitB_parts (m : UInt8) : ∀ (k : Nat) (s : ByteArray), Lib.countB s ⟨#[m]⟩ = k → Lib.splitB ⟨#[m]⟩ 0 k s = (parts m [] s.data.toList).map tx := by
  intro k
  induction k with
  | zero =>
    intro s h
    have hi := indexB_gi m s
    by_cases hg : gi m s.data.toList < s.data.toList.length
    · rw [if_pos hg] at hi
      have := Lib.countB_hit s ⟨#[m]⟩ _ (Nat.le_refl 1) hi
      omega
    · rw [Lib.splitB_zero, parts_none m _ [] (gi_none m _ hg), List.nil_append]
      show [s] = [tx s.data.toList]
      rw [← tx_of]
  | succ k ih =>
    intro s h
    have hi := indexB_gi m s
    by_cases hg : gi m s.data.toList < s.data.toList.length
    · rw [if_pos hg] at hi
      have hc := Lib.countB_hit s ⟨#[m]⟩ _ (Nat.le_refl 1) hi
      have e := parts_some m (s.data.toList.take (gi m s.data.toList)) (s.data.toList.drop (gi m s.data.toList + 1)) [] (gi_take m _)
      rw [← gi_split m _ hg] at e
      rw [Lib.splitB_hit _ _ _ _ _ hi, ih _ (by omega), e, List.map_cons, List.nil_append]
      congr 1
      · rw [tx_piece, List.drop_zero]; rfl
      · congr 2
        show (s.extract (gi m s.data.toList + 1) s.size).data.toList = _
        rw [Lib.extract_to_end]
    · rw [if_neg hg] at hi
      have := Lib.countB_miss s ⟨#[m]⟩ hi
      omega

/-- Where the shelf's variable MaxLen holds a number. -/
def MX (w : World) : Prop := ∃ m : Int, w.cell? ⟨0, 0, none⟩ = some (.int .i64 m)
theorem MX.below {w w' : World} {B : Nat} (h : MX w) (hb : Below B w w') (hB : w.heap.size ≤ B) (_h0 : 0 < w.heap.size) : MX w' := by
  obtain ⟨m, h⟩ := h
  exact ⟨m, by rw [← h]; exact hb.cell (p := ⟨0, 0, none⟩) (Nat.lt_of_lt_of_le (World.block_lt_of_cell? w _ h) hB)⟩

end Go.Proofs.YtldnldgndjbhfaaDoor
