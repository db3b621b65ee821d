/- Sorting by putting each one back to its place, in plain lists: what stands where, and that the order is the one by keys. -/
namespace Go.Proofs.Ytnmdgbnophclnaa

/-- In ascending order of keys, and of the numbers themselves where the keys are equal. -/
def Ord (k : Nat → Nat) (a b : Nat) : Prop := k a < k b ∨ k a = k b ∧ a < b
theorem Ord.trans {k : Nat → Nat} {a b c : Nat} (h : Ord k a b) (g : Ord k b c) : Ord k a c := by
  unfold Ord at *; omega
theorem Ord.asymm {k : Nat → Nat} {a b : Nat} (h : Ord k a b) (g : Ord k b a) : a = b := by
  unfold Ord at *; omega
theorem ord_unique {k : Nat → Nat} {l m : List Nat} (hl : l.Pairwise (Ord k)) (hm : m.Pairwise (Ord k)) (h : l.Perm m) : l = m :=
  h.eq_of_pairwise (fun _ _ _ _ x y => x.asymm y) hl hm

/-- The first i are sorted, the others stand as they stood. -/
def SortTo (k : Nat → Nat) (o : List Nat) (i : Nat) (d : List Nat) : Prop := ∃ P, d = P ++ o.drop i ∧ P.Perm (o.take i) ∧ P.Pairwise (Ord k)
/-- The i-th is on its way to its place, and is now at j. -/
def SortIn (k : Nat → Nat) (o : List Nat) (i j e : Nat) (d : List Nat) : Prop := ∃ A B, d = A ++ e :: B ++ o.drop (i + 1) ∧ A.length = j ∧ j ≤ i ∧ (A ++ B).Perm (o.take i) ∧ (A ++ B).Pairwise (Ord k) ∧ (∀ b ∈ B, k e < k b) ∧ o[i]? = some e

theorem SortTo.len {k : Nat → Nat} {o : List Nat} {i : Nat} {d : List Nat} (h : SortTo k o i d) : d.length = o.length := by
  obtain ⟨P, rfl, hp, _⟩ := h
  have := hp.length_eq
  rw [List.length_append, this, ← List.length_append, List.take_append_drop]
theorem SortTo.one (k : Nat → Nat) (o : List Nat) (h : o ≠ []) : SortTo k o 1 o := by
  cases o with
  | nil => exact absurd rfl h
  | cons a o => exact ⟨[a], rfl, List.Perm.refl _, List.pairwise_singleton ..⟩
theorem SortTo.done {k : Nat → Nat} {o d : List Nat} (h : SortTo k o o.length d) : d.Perm o ∧ d.Pairwise (Ord k) := by
  obtain ⟨P, rfl, hp, hs⟩ := h
  rw [List.drop_length, List.append_nil]
  rw [List.take_length] at hp
  exact ⟨hp, hs⟩
theorem SortTo.begin {k : Nat → Nat} {o d : List Nat} {i : Nat} (h : SortTo k o i d) (hi : i < o.length) : SortIn k o i i o[i] d := by
  obtain ⟨P, rfl, hp, hs⟩ := h
  have hl := hp.length_eq
  rw [List.length_take, Nat.min_eq_left (Nat.le_of_lt hi)] at hl
  refine ⟨P, [], ?_, hl, Nat.le_refl _, ?_, ?_, ?_, ?_⟩
  · rw [List.drop_eq_getElem_cons hi, List.append_assoc]; rfl
  · rw [List.append_nil]; exact hp
  · rw [List.append_nil]; exact hs
  · intro b hb; cases hb
  · exact List.getElem?_eq_getElem hi
theorem SortIn.len {k : Nat → Nat} {o d : List Nat} {i j e : Nat} (h : SortIn k o i j e d) : d.length = o.length := by
  obtain ⟨A, B, rfl, _, _, hp, _, _, he⟩ := h
  have hl := hp.length_eq
  obtain ⟨hi, _⟩ := List.getElem?_eq_some_iff.1 he
  rw [List.length_take, Nat.min_eq_left (Nat.le_of_lt hi), List.length_append] at hl
  rw [List.length_append, List.length_append, List.length_cons, List.length_drop]
  omega
theorem SortIn.at {k : Nat → Nat} {o d : List Nat} {i j e : Nat} (h : SortIn k o i j e d) : d[j]? = some e := by
  obtain ⟨A, B, rfl, hj, _⟩ := h
  rw [List.append_assoc, List.getElem?_append_right (by omega), hj, Nat.sub_self]
  rfl
theorem SortIn.lt {k : Nat → Nat} {o d : List Nat} {i j e : Nat} (h : SortIn k o i j e d) : j < d.length := by
  obtain ⟨hi, _⟩ := List.getElem?_eq_some_iff.1 h.at
  exact hi
theorem SortIn.mem {k : Nat → Nat} {o d : List Nat} {i j e : Nat} (h : SortIn k o i j e d) : ∀ x ∈ d, x ∈ o := by
  obtain ⟨A, B, rfl, _, _, hp, _, _, he⟩ := h
  intro x hx
  have hi : e ∈ o := List.mem_of_getElem? he
  simp only [List.mem_append, List.mem_cons] at hx
  rcases hx with (h1 | rfl | h1) | h1
  · exact List.mem_of_mem_take (hp.mem_iff.1 (List.mem_append_left _ h1))
  · exact hi
  · exact List.mem_of_mem_take (hp.mem_iff.1 (List.mem_append_right _ h1))
  · exact List.mem_of_mem_drop h1
/-- One step down. -/
theorem SortIn.step {k : Nat → Nat} {o d : List Nat} {i j e p : Nat} (h : SortIn k o i (j + 1) e d) (hp : d[j]? = some p) (hk : k e < k p) : SortIn k o i j e ((d.set (j + 1) p).set j e) := by
  obtain ⟨A, B, rfl, hj, hji, hpm, hs, hb, he⟩ := h
  rcases List.eq_nil_or_concat A with rfl | ⟨A', q, rfl⟩
  · simp at hj
  · rw [List.concat_eq_append] at *
    rw [List.length_append, List.length_singleton] at hj
    have hj' : A'.length = j := by omega
    subst hj'
    have hq : q = p := by
      rw [List.append_assoc, List.append_assoc, List.getElem?_append_right (Nat.le_refl _), Nat.sub_self] at hp
      simpa using hp
    subst hq
    refine ⟨A', q :: B, ?_, rfl, by omega, ?_, ?_, ?_, he⟩
    · rw [show A' ++ [q] ++ e :: B ++ o.drop (i + 1) = A' ++ (q :: e :: (B ++ o.drop (i + 1))) by simp]
      rw [List.set_append_right _ _ (by omega), List.set_append_right _ _ (Nat.le_refl _)]
      rw [show A'.length + 1 - A'.length = 1 by omega, Nat.sub_self]
      simp
    · rw [show A' ++ q :: B = A' ++ [q] ++ B by simp]; exact hpm
    · rw [show A' ++ q :: B = A' ++ [q] ++ B by simp]; exact hs
    · intro b hb'
      rcases List.mem_cons.1 hb' with rfl | hb'
      · exact hk
      · exact hb b hb'
/-- It stands where it belongs. -/
theorem SortIn.stop {k : Nat → Nat} {o d : List Nat} {i j e : Nat} (h : SortIn k o i j e d) (tie : ∀ x ∈ o.take i, k x = k e → x < e) (hstop : j = 0 ∨ ∃ p, d[j - 1]? = some p ∧ ¬ k e < k p) : SortTo k o (i + 1) d := by
  obtain ⟨A, B, rfl, hj, hji, hpm, hs, hb, he⟩ := h
  refine ⟨A ++ e :: B, rfl, ?_, ?_⟩
  · obtain ⟨hi, hei⟩ := List.getElem?_eq_some_iff.1 he
    rw [List.take_succ_eq_append_getElem hi, hei]
    exact (List.perm_middle.trans (hpm.cons e)).trans (List.perm_append_comm (l₁ := [e])) 
  · rw [List.pairwise_append] at hs
    obtain ⟨hA, hB, hAB⟩ := hs
    have hAe : ∀ a ∈ A, Ord k a e := by
      rcases List.eq_nil_or_concat A with rfl | ⟨A', q, rfl⟩
      · intro a ha; cases ha
      · rw [List.concat_eq_append] at *
        rw [List.length_append, List.length_singleton] at hj
        rcases hstop with h0 | ⟨p, hp, hk⟩
        · omega
        · have hq : q = p := by
            rw [List.append_assoc, List.append_assoc, show j - 1 = A'.length by omega, List.getElem?_append_right (Nat.le_refl _), Nat.sub_self] at hp
            simpa using hp
          subst hq
          have hqe : Ord k q e := by
            have := tie q (hpm.mem_iff.1 (by simp))
            unfold Ord
            omega
          rw [List.pairwise_append] at hA
          intro a ha
          rcases List.mem_append.1 ha with h1 | h1
          · exact (hA.2.2 a h1 q (by simp)).trans hqe
          · rw [List.mem_singleton.1 h1]; exact hqe
    rw [List.pairwise_append, List.pairwise_cons]
    refine ⟨hA, ⟨fun b hb' => .inl (hb b hb'), hB⟩, ?_⟩
    intro a ha b hb'
    rcases List.mem_cons.1 hb' with rfl | hb'
    · exact hAe a ha
    · exact hAB a ha b hb'

/-- The order of the first n numbers by their keys: one key after another. -/
def byKey (k : Nat → Nat) (K n : Nat) : List Nat := (List.range K).flatMap fun c => (List.range n).filter fun i => k i == c
theorem byKey_sorted (k : Nat → Nat) (K n : Nat) : (byKey k K n).Pairwise (Ord k) := by
  unfold byKey
  rw [List.pairwise_flatMap]
  constructor
  · intro c _
    have h := (List.pairwise_lt_range (n := n)).filter (fun i => k i == c)
    refine h.imp_of_mem ?_
    intro a b ha hb hab
    have h1 := (List.mem_filter.1 ha).2
    have h2 := (List.mem_filter.1 hb).2
    simp only [beq_iff_eq] at h1 h2
    exact .inr ⟨by omega, hab⟩
  · refine (List.pairwise_lt_range (n := K)).imp ?_
    intro c d hcd x hx y hy
    have h1 := (List.mem_filter.1 hx).2
    have h2 := (List.mem_filter.1 hy).2
    simp only [beq_iff_eq] at h1 h2
    exact .inl (by omega)
theorem byKey_perm (k : Nat → Nat) (K n : Nat) (h : ∀ i, i < n → k i < K) : (byKey k K n).Perm (List.range n) := by
  have e1 : (byKey k K n).Nodup := (byKey_sorted k K n).imp (fun {a b} hab e => by subst e; unfold Ord at hab; omega)
  refine (List.perm_ext_iff_of_nodup e1 List.nodup_range).2 ?_
  intro a
  unfold byKey
  rw [List.mem_flatMap, List.mem_range]
  constructor
  · rintro ⟨c, _, hx⟩
    exact List.mem_range.1 (List.mem_filter.1 hx).1
  · intro ha
    exact ⟨k a, List.mem_range.2 (h a ha), List.mem_filter.2 ⟨List.mem_range.2 ha, by simp⟩⟩
theorem byKey_of {k : Nat → Nat} {K n : Nat} {d : List Nat} (h : ∀ i, i < n → k i < K) (hp : d.Perm (List.range n)) (hs : d.Pairwise (Ord k)) : d = byKey k K n :=
  ord_unique hs (byKey_sorted k K n) (hp.trans (byKey_perm k K n h).symm)
theorem range_of {n : Nat} {d : List Nat} (hp : d.Perm (List.range n)) (hs : d.Pairwise (Ord id)) : d = List.range n :=
  ord_unique hs ((List.pairwise_lt_range (n := n)).imp fun h => .inl h) hp
end Go.Proofs.Ytnmdgbnophclnaa
