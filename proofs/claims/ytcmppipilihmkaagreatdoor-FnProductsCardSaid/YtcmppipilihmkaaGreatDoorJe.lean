/- The journal of some texts: the program's function by its contract. The table of powers of ten is a premise. -/
import Derived.Test.YtcmppipilihmkaaGreatDoorJd
import Derived.Lib.IndexAny
namespace Go.Proofs.YtcmppipilihmkaaGreatDoor
open Go.RowKit Go.Sort

/-- The check number and the journal behind some texts. -/
def jst (ss : List ByteArray) : Int × List UInt8 := ss.foldl (fun st s => (ck st.1 s.data.toList, st.2 ++ jl st.1 s.data.toList)) (0, [])
theorem jst_snoc (ss : List ByteArray) (s : ByteArray) : jst (ss ++ [s]) = (ck (jst ss).1 s.data.toList, (jst ss).2 ++ jl (jst ss).1 s.data.toList) := by
  unfold jst; rw [List.foldl_append]; rfl
theorem jst_take (ss : List ByteArray) (k : Nat) (h : k < ss.length) : jst (ss.take (k + 1)) = (ck (jst (ss.take k)).1 ss[k].data.toList, (jst (ss.take k)).2 ++ jl (jst (ss.take k)).1 ss[k].data.toList) := by
  rw [List.take_succ_eq_append_getElem h, jst_snoc]
theorem snocInd {α : Type} {p : List α → Prop} (h0 : p []) (h1 : ∀ l a, p l → p (l ++ [a])) : ∀ l, p l := by
  intro l
  have : ∀ n, ∀ l : List α, l.length = n → p l := by
    intro n
    induction n with
    | zero => intro l hl; rw [List.eq_nil_of_length_eq_zero hl]; exact h0
    | succ n ih =>
      intro l hl
      have hne : l ≠ [] := by intro e; subst e; cases hl
      rw [← List.dropLast_concat_getLast hne]
      exact h1 _ _ (ih _ (by rw [List.length_dropLast]; omega))
  exact this _ l rfl
theorem jst_bound (ss : List ByteArray) : 0 ≤ (jst ss).1 ∧ (jst ss).1 ≤ 65002 := by
  induction ss using snocInd with
  | h0 => exact ⟨by decide, by decide⟩
  | h1 l a ih => rw [jst_snoc]; exact ck_bound _ _ ih.1 ih.2
theorem tot_snoc (ss : List ByteArray) (s : ByteArray) : tot (ss ++ [s]) = tot ss + s.size := by
  unfold tot
  simp only [List.map_append, List.sum_append, List.map_cons, List.map_nil, List.sum_cons, List.sum_nil, Nat.add_zero]
theorem bytes_len (s : ByteArray) : s.data.toList.length = s.size := by rw [Array.length_toList]; rfl
theorem jst_len (ss : List ByteArray) : tot ss + 3 * ss.length ≤ (jst ss).2.length ∧ (jst ss).2.length ≤ tot ss + 7 * ss.length := by
  induction ss using snocInd with
  | h0 => exact ⟨by decide, by decide⟩
  | h1 l a ih =>
    have hb := jst_bound l
    have hj := jl_len (jst l).1 a.data.toList hb.1 hb.2
    rw [bytes_len] at hj
    rw [jst_snoc, tot_snoc, List.length_append]
    simp only [List.length_append, List.length_cons, List.length_nil]
    omega
theorem jst_mono (ss : List ByteArray) (k : Nat) : (jst (ss.take k)).2.length ≤ (jst ss).2.length := by
  by_cases h : k < ss.length
  · have : ∀ d, k + d ≤ ss.length → (jst (ss.take k)).2.length ≤ (jst (ss.take (k + d))).2.length := by
      intro d
      induction d with
      | zero => intro _; exact Nat.le_refl _
      | succ d ih =>
        intro hd
        refine Nat.le_trans (ih (by omega)) ?_
        rw [← Nat.add_assoc, jst_take ss (k + d) (by omega), List.length_append]
        omega
    have h2 := this (ss.length - k) (by omega)
    rw [show k + (ss.length - k) = ss.length from by omega, List.take_length] at h2
    exact h2
  · rw [List.take_of_length_le (by omega)]; exact Nat.le_refl _

/-- Does a text hold a new line? -/
def nl (s : ByteArray) : Bool := s.data.toList.contains 10
theorem nl_index (s : ByteArray) : decide (0 ≤ Lib.indexByte s.data.toList 10) = nl s := (Lib.contains_iff_indexByte _ _).symm

/-- Have these texts a journal? -/
def goodB (ss : List ByteArray) : Bool := ss.all (fun s => !nl s) && decide ((jst ss).2.length ≤ 12000)
theorem bad_nl (ss : List ByteArray) (k : Nat) (hk : k < ss.length) (h : nl ss[k] = true) : goodB ss = false := by
  unfold goodB
  have : ss.all (fun s => !nl s) = false := by
    rw [List.all_eq_false]
    exact ⟨ss[k], List.getElem_mem hk, by simp [h]⟩
  rw [this]; rfl
theorem bad_len (ss : List ByteArray) (k : Nat) (h : 12000 < (jst (ss.take k)).2.length) : goodB ss = false := by
  unfold goodB
  have := jst_mono ss k
  rw [show decide ((jst ss).2.length ≤ 12000) = false by simp; omega]
  simp
theorem bad_one (ss : List ByteArray) (k : Nat) (hk : k < ss.length) (h : 12000 < ss[k].size) : goodB ss = false := by
  refine bad_len ss (k + 1) ?_
  have := (jst_len (ss.take (k + 1))).1
  rw [tot_take ss k hk] at this
  omega
theorem good_all (ss : List ByteArray) (h1 : ∀ k (h : k < ss.length), nl ss[k] = false) (h2 : (jst ss).2.length ≤ 12000) : goodB ss = true := by
  unfold goodB
  rw [show ss.all (fun s => !nl s) = true by
    rw [List.all_eq_true]
    intro s hs
    obtain ⟨i, hi, rfl⟩ := List.getElem_of_mem hs
    simp [h1 i hi]]
  simpa using h2

/-- What both functions hand back. -/
def jres (ss : List ByteArray) : Value := if goodB ss then .tuple #[.string ⟨(jst ss).2.toArray⟩, .bool true] else .tuple #[.string ⟨#[]⟩, .bool false]
theorem jres_no {ss : List ByteArray} (h : goodB ss = false) : jres ss = .tuple #[.string ⟨#[]⟩, .bool false] := by unfold jres; rw [h]; rfl
theorem jres_yes {ss : List ByteArray} (h : goodB ss = true) : jres ss = .tuple #[.string ⟨(jst ss).2.toArray⟩, .bool true] := by unfold jres; rw [h]; rfl
/-- The post, kept from the walk. -/
def JOut (ss : List ByteArray) (w : World) (e : Ending) (w' : World) : Prop := e = .returned (jres ss) ∧ Below w.heap.size w w'

theorem app_bytes (a b : List UInt8) : (⟨a.toArray⟩ : ByteArray) ++ ⟨b.toArray⟩ = ⟨(a ++ b).toArray⟩ := by
  apply ByteArray.ext
  apply Array.ext'
  simp

end Go.Proofs.YtcmppipilihmkaaGreatDoor
