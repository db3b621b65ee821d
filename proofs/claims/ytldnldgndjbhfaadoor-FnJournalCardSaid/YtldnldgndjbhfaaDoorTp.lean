/- Plain facts on the lines of a journal that is cut anywhere: what the reference reads of its parts, and the program of its lines, is the same. No program. -/
import Derived.Test.YtldnldgndjbhfaaDoorJe
import Derived.Lib.IndexBytes
import Derived.Lib.IndexLaws
import Derived.Lib.Strings
namespace Go.Proofs.YtldnldgndjbhfaaDoor
open Go.RowKit Go.Sort

/-- The parts of a text between marks. -/
def parts (m : UInt8) : List UInt8 → List UInt8 → List (List UInt8)
  | cur, [] => [cur]
  | cur, b :: r => if b = m then cur :: parts m [] r else parts m (cur ++ [b]) r
theorem parts_cons (m : UInt8) (cur : List UInt8) (b : UInt8) (r : List UInt8) : parts m cur (b :: r) = if b = m then cur :: parts m [] r else parts m (cur ++ [b]) r := rfl
theorem parts_ne (m : UInt8) (cur l : List UInt8) : parts m cur l ≠ [] := by
  induction l generalizing cur with
  | nil => simp [parts]
  | cons b r ih =>
    unfold parts
    split
    · simp
    · exact ih _
theorem parts_none (m : UInt8) (l cur : List UInt8) (h : ∀ b ∈ l, b ≠ m) : parts m cur l = [cur ++ l] := by
  induction l generalizing cur with
  | nil => simp [parts]
  | cons b r ih =>
    unfold parts
    rw [if_neg (h b (List.mem_cons_self ..)), ih _ (fun x hx => h x (List.mem_cons_of_mem _ hx))]
    simp
theorem parts_some (m : UInt8) (a r cur : List UInt8) (h : ∀ b ∈ a, b ≠ m) : parts m cur (a ++ m :: r) = (cur ++ a) :: parts m [] r := by
  induction a generalizing cur with
  | nil => rw [List.nil_append, parts_cons, if_pos rfl, List.append_nil]
  | cons b q ih =>
    rw [List.cons_append, parts_cons, if_neg (h b (List.mem_cons_self ..)), ih _ (fun x hx => h x (List.mem_cons_of_mem _ hx))]
    simp
theorem parts_len (m : UInt8) (l cur : List UInt8) : (parts m cur l).length ≤ l.length + 1 := by
  induction l generalizing cur with
  | nil => simp [parts]
  | cons b r ih =>
    unfold parts
    split
    · have := ih []; simp; omega
    · have := ih (cur ++ [b]); simp; omega
theorem parts_sum (m : UInt8) (l cur : List UInt8) : ∀ p ∈ parts m cur l, p.length ≤ cur.length + l.length := by
  induction l generalizing cur with
  | nil => intro p hp; simp [parts] at hp; subst hp; simp
  | cons b r ih =>
    intro p hp
    unfold parts at hp
    split at hp
    · rcases List.mem_cons.1 hp with rfl | h
      · simp
      · have := ih [] p h; simp at this ⊢; omega
    · have := ih _ p hp; simp at this ⊢; omega

/-- The place of the first space, or the length. -/
def fi (l : List UInt8) : Nat := (l.takeWhile (fun b => b != 32)).length
theorem fi_le (l : List UInt8) : fi l ≤ l.length := by
  unfold fi
  exact (List.takeWhile_sublist _).length_le
theorem fi_cons (b : UInt8) (r : List UInt8) : fi (b :: r) = if b = 32 then 0 else fi r + 1 := by
  unfold fi
  by_cases h : b = 32
  · subst h; rfl
  · rw [List.takeWhile_cons_of_pos (by simpa using h), if_neg h]; rfl
theorem fi_at (l : List UInt8) (k : Nat) (h : ∀ j, j < k → l[j]? ≠ some 32) (hk : k ≤ l.length) (h2 : k = l.length ∨ l[k]? = some 32) : fi l = k := by
  induction l generalizing k with
  | nil => simp at hk; subst hk; rfl
  | cons b r ih =>
    rw [fi_cons]
    cases k with
    | zero =>
      rcases h2 with h2 | h2
      · simp at h2
      · rw [if_pos (by simpa using h2)]
    | succ k =>
      have hb : b ≠ 32 := fun e => h 0 (by omega) (by simp [e])
      rw [if_neg hb, ih k (fun j hj => by simpa using h (j + 1) (by omega)) (by simpa using hk) (by simpa using h2)]
theorem fi_take (l : List UInt8) : ∀ b ∈ l.take (fi l), b ≠ 32 := by
  induction l with
  | nil => simp
  | cons a r ih =>
    rw [fi_cons]
    split
    · simp
    · intro b hb
      rw [List.take_succ_cons] at hb
      rcases List.mem_cons.1 hb with rfl | h
      · assumption
      · exact ih b h
theorem fi_split (l : List UInt8) (h : fi l < l.length) : l = l.take (fi l) ++ 32 :: l.drop (fi l + 1) := by
  induction l with
  | nil => simp [fi] at h
  | cons a r ih =>
    rw [fi_cons] at h ⊢
    by_cases ha : a = 32
    · simp [ha]
    · rw [if_neg ha] at h ⊢
      rw [List.take_succ_cons, List.drop_succ_cons, List.cons_append, ← ih (by simpa using h)]
theorem index_fi (l : List UInt8) : Lib.indexByte l 32 = if fi l < l.length then (fi l : Int) else -1 := by
  induction l with
  | nil => rfl
  | cons a r ih =>
    show (if a == 32 then 0 else if Lib.indexByte r 32 == -1 then -1 else Lib.indexByte r 32 + 1) = _
    rw [ih, fi_cons]
    by_cases ha : a = 32
    · subst ha; simp
    · rw [if_neg (show ¬ (a == 32) = true by simpa using ha), if_neg ha]
      by_cases h : fi r < r.length
      · have h1 : fi r + 1 < (a :: r).length := by rw [List.length_cons]; omega
        rw [if_pos h, if_pos h1, if_neg (show ¬ ((fi r : Int) == -1) = true by rw [beq_iff_eq]; omega)]
        omega
      · have h1 : ¬ fi r + 1 < (a :: r).length := by rw [List.length_cons]; omega
        rw [if_neg h, if_neg h1]; rfl

/-- What a journal's complete lines give: the lines, and how many bytes they take. -/
def good (n : Int) (l : List UInt8) : Bool := decide (fi l < l.length) && (Lib.itoa (ck n (l.drop (fi l + 1))) == l.take (fi l))
def recov : Int → List (List UInt8) → List (List UInt8) × Nat
  | _, [] => ([], 0)
  | n, l :: r => if good n l then (l.drop (fi l + 1) :: (recov (ck n (l.drop (fi l + 1))) r).1, l.length + 1 + (recov (ck n (l.drop (fi l + 1))) r).2) else ([], 0)
theorem recov_yes {n : Int} {l : List UInt8} {r : List (List UInt8)} (h : good n l = true) : recov n (l :: r) = (l.drop (fi l + 1) :: (recov (ck n (l.drop (fi l + 1))) r).1, l.length + 1 + (recov (ck n (l.drop (fi l + 1))) r).2) := by
  show (if good n l then _ else _) = _
  rw [if_pos h]
theorem recov_no {n : Int} {l : List UInt8} {r : List (List UInt8)} (h : good n l = false) : recov n (l :: r) = ([], 0) := by
  show (if good n l then _ else _) = _
  rw [h]; rfl

/-- A line as the program reads it, its end with it. -/
def trim (x : List UInt8) : List UInt8 := Lib.trimSuffix x [10]
def okT (n : Int) (x : List UInt8) : Bool := decide (fi (trim x) < (trim x).length) && (jl n ((trim x).drop (fi (trim x) + 1)) == x)
def irun : Int → List (List UInt8) → List (List UInt8) × Nat
  | _, [] => ([], 0)
  | n, x :: r => if okT n x then ((trim x).drop (fi (trim x) + 1) :: (irun (ck n ((trim x).drop (fi (trim x) + 1))) r).1, x.length + (irun (ck n ((trim x).drop (fi (trim x) + 1))) r).2) else ([], 0)
theorem irun_yes {n : Int} {x : List UInt8} {r : List (List UInt8)} (h : okT n x = true) : irun n (x :: r) = ((trim x).drop (fi (trim x) + 1) :: (irun (ck n ((trim x).drop (fi (trim x) + 1))) r).1, x.length + (irun (ck n ((trim x).drop (fi (trim x) + 1))) r).2) := by
  show (if okT n x then _ else _) = _
  rw [if_pos h]
theorem irun_no {n : Int} {x : List UInt8} {r : List (List UInt8)} (h : okT n x = false) : irun n (x :: r) = ([], 0) := by
  show (if okT n x then _ else _) = _
  rw [h]; rfl

theorem trim_end (p : List UInt8) : trim (p ++ [10]) = p := by
  unfold trim Lib.trimSuffix Lib.hasSuffix
  rw [if_pos (by rw [List.isSuffixOf_iff_suffix]; exact List.suffix_append p [10])]
  simp
theorem trim_none (p : List UInt8) (h : ∀ b ∈ p, b ≠ 10) : trim p = p := by
  unfold trim Lib.trimSuffix Lib.hasSuffix
  rw [if_neg]
  intro e
  rw [List.isSuffixOf_iff_suffix] at e
  exact h 10 (e.subset (List.mem_singleton.2 rfl)) rfl

theorem okT_line (n : Int) (p : List UInt8) : okT n (p ++ [10]) = good n p := by
  unfold okT good
  rw [trim_end]
  by_cases h : fi p < p.length
  · rw [decide_eq_true h, Bool.true_and, Bool.true_and]
    unfold jl
    have e := fi_split p h
    generalize p.drop (fi p + 1) = d at *
    generalize p.take (fi p) = t at *
    rw [Bool.eq_iff_iff, beq_iff_eq, beq_iff_eq, e]
    constructor
    · intro h2
      have h3 : Lib.itoa (ck n d) ++ (32 :: (d ++ [10])) = t ++ (32 :: (d ++ [10])) := by rw [h2]; simp
      exact List.append_cancel_right h3
    · intro h2
      rw [h2]; simp
  · rw [decide_eq_false h, Bool.false_and, Bool.false_and]
theorem okT_rest (n : Int) (p : List UInt8) (h : ∀ b ∈ p, b ≠ 10) : okT n p = false := by
  unfold okT
  rw [trim_none p h, Bool.and_eq_false_iff]
  right
  rw [beq_eq_false_iff_ne]
  intro e
  exact h 10 (by rw [← e]; unfold jl; simp) rfl

/-- The lines of a text, each with its end but the last. -/
def ends (ps : List (List UInt8)) : List (List UInt8) := ps.dropLast.map (· ++ [10]) ++ (if ps.getLastD [] = [] then [] else [ps.getLastD []])
theorem irun_lines (ps : List (List UInt8)) (n : Int) (hl : ∀ b ∈ ps.getLastD [], b ≠ 10) : irun n (ends ps) = recov n ps.dropLast := by
  unfold ends
  generalize ps.getLastD [] = z at *
  generalize ps.dropLast = d
  induction d generalizing n with
  | nil =>
    simp only [List.map_nil, List.nil_append]
    split
    · rfl
    · exact irun_no (okT_rest n z hl)
  | cons p r ih =>
    rw [List.map_cons, List.cons_append]
    cases hg : good n p
    · rw [irun_no (by rw [okT_line]; exact hg), recov_no hg]
    · rw [irun_yes (by rw [okT_line]; exact hg), recov_yes hg, trim_end, ih]
      simp
end Go.Proofs.YtldnldgndjbhfaaDoor
