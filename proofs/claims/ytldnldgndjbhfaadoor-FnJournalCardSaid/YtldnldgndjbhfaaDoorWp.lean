/- Plain facts: what is recovered of a journal that is cut, or in which a byte is another one. No program. -/
import Derived.Test.YtldnldgndjbhfaaDoorTz
namespace Go.Proofs.YtldnldgndjbhfaaDoor

/-- Lines one after another, each with its end. -/
def flat (ls : List (List UInt8)) : List UInt8 := (ls.map (· ++ [10])).flatten
theorem flat_nil : flat [] = [] := rfl
theorem flat_cons (l : List UInt8) (r : List (List UInt8)) : flat (l :: r) = l ++ 10 :: flat r := by
  unfold flat; simp
theorem flat_append (a b : List (List UInt8)) : flat (a ++ b) = flat a ++ flat b := by
  unfold flat; simp
/-- The journal of lines, and its entries, from a check number on. -/
def jrn : Int → List (List UInt8) → List UInt8
  | _, [] => []
  | n, l :: r => jl n l ++ jrn (ck n l) r
def ents : Int → List (List UInt8) → List (List UInt8)
  | _, [] => []
  | n, l :: r => (Lib.itoa (ck n l) ++ 32 :: l) :: ents (ck n l) r
theorem jrn_ents : ∀ (L : List (List UInt8)) (n : Int), jrn n L = flat (ents n L) := by
  intro L
  induction L with
  | nil => intro n; rfl
  | cons l r ih =>
    intro n
    show jl n l ++ jrn (ck n l) r = flat ((Lib.itoa (ck n l) ++ 32 :: l) :: ents (ck n l) r)
    rw [flat_cons, ih]
    unfold jl
    simp
theorem ents_length : ∀ (L : List (List UInt8)) (n : Int), (ents n L).length = L.length := by
  intro L
  induction L with
  | nil => intro n; rfl
  | cons l r ih => intro n; show (ents (ck n l) r).length + 1 = r.length + 1; rw [ih]
theorem jst_jrn (ss : List ByteArray) : (jst ss).2 = jrn 0 (ss.map (·.data.toList)) := by
  have gen : ∀ (ss : List ByteArray) (n : Int) (acc : List UInt8), (ss.foldl (fun st s => (ck st.1 s.data.toList, st.2 ++ jl st.1 s.data.toList)) (n, acc)).2 = acc ++ jrn n (ss.map (·.data.toList)) := by
    intro ss
    induction ss with
    | nil => intro n acc; simp [jrn]
    | cons s r ih =>
      intro n acc
      show (r.foldl _ (ck n s.data.toList, acc ++ jl n s.data.toList)).2 = _
      rw [ih]
      show _ = acc ++ (jl n s.data.toList ++ jrn (ck n s.data.toList) (r.map (·.data.toList)))
      rw [List.append_assoc]
  unfold jst
  rw [gen ss 0 [], List.nil_append]

/-- What is recovered is a beginning. -/
theorem good_line {n : Int} {l : List UInt8} (h : good n l = true) : jl n (l.drop (fi l + 1)) = l ++ [10] := by
  unfold good at h
  simp only [Bool.and_eq_true, decide_eq_true_eq, beq_iff_eq] at h
  unfold jl
  rw [h.2]
  conv => rhs; rw [fi_split l h.1]
  simp
theorem recov_flat : ∀ (ls : List (List UInt8)) (n : Int), jrn n (recov n ls).1 = (flat ls).take (recov n ls).2 ∧ (recov n ls).2 ≤ (flat ls).length := by
  intro ls
  induction ls with
  | nil => intro n; exact ⟨rfl, Nat.le_refl _⟩
  | cons l r ih =>
    intro n
    cases hg : good n l
    · rw [recov_no hg]; exact ⟨rfl, Nat.zero_le _⟩
    · rw [recov_yes hg, flat_cons]
      have h := ih (ck n (l.drop (fi l + 1)))
      generalize hq : recov (ck n (l.drop (fi l + 1))) r = q at *
      have e : (l ++ [10]).length = l.length + 1 := by simp
      refine ⟨?_, ?_⟩
      · show jl n (l.drop (fi l + 1)) ++ jrn (ck n (l.drop (fi l + 1))) q.1 = (l ++ 10 :: flat r).take (l.length + 1 + q.2)
        rw [good_line hg, h.1, show l ++ 10 :: flat r = (l ++ [10]) ++ flat r by simp, List.take_append, e, List.take_of_length_le (i := l.length + 1 + q.2) (l := l ++ [10]) (by rw [e]; omega), show l.length + 1 + q.2 - (l.length + 1) = q.2 by omega]
      · show l.length + 1 + q.2 ≤ _
        simp only [List.length_append, List.length_cons]
        omega
/-- The complete lines of a text are its beginning. -/
theorem parts_flat : ∀ (l cur : List UInt8), cur ++ l = flat (parts 10 cur l).dropLast ++ (parts 10 cur l).getLastD [] := by
  intro l
  induction l with
  | nil => intro cur; simp [parts, flat]
  | cons b r ih =>
    intro cur
    rw [parts_cons]
    split
    · rename_i hb
      subst hb
      have h := ih []
      have hne := parts_ne 10 [] r
      rw [List.dropLast_cons_of_ne_nil hne, flat_cons]
      have e : (cur :: parts 10 [] r).getLastD [] = (parts 10 [] r).getLastD [] := by
        cases hp : parts 10 [] r with
        | nil => exact absurd hp hne
        | cons a t => simp [List.getLastD]
      rw [e]
      rw [List.nil_append] at h
      conv => lhs; rw [h]
      simp
    · rw [← ih (cur ++ [b])]
      simp
theorem recov_begin (l : List UInt8) : jrn 0 (recov 0 (parts 10 [] l).dropLast).1 = l.take (recov 0 (parts 10 [] l).dropLast).2 ∧ (recov 0 (parts 10 [] l).dropLast).2 ≤ l.length := by
  have h := recov_flat (parts 10 [] l).dropLast 0
  have e := parts_flat l []
  rw [List.nil_append] at e
  generalize (recov 0 (parts 10 [] l).dropLast) = q at *
  generalize (parts 10 [] l).dropLast = ls at *
  generalize (parts 10 [] l).getLastD [] = z at *
  refine ⟨?_, ?_⟩
  · rw [h.1, e, List.take_append, show q.2 - (flat ls).length = 0 by omega]; simp
  · rw [e, List.length_append]; omega
/-- What is recovered holds no end of a line. -/
theorem parts_mark : ∀ (l cur : List UInt8), (∀ b ∈ cur, b ≠ 10) → ∀ p ∈ parts 10 cur l, ∀ b ∈ p, b ≠ 10 := by
  intro l
  induction l with
  | nil =>
    intro cur h p hp
    simp only [parts, List.mem_singleton] at hp
    subst hp; exact h
  | cons a r ih =>
    intro cur h p hp
    rw [parts_cons] at hp
    split at hp
    · rcases List.mem_cons.1 hp with rfl | hp
      · exact h
      · exact ih [] (by simp) p hp
    · rename_i ha
      refine ih (cur ++ [a]) ?_ p hp
      intro b hb
      rcases List.mem_append.1 hb with hb | hb
      · exact h b hb
      · rw [List.mem_singleton.1 hb]; exact ha
theorem recov_mark : ∀ (ls : List (List UInt8)) (n : Int), (∀ p ∈ ls, ∀ b ∈ p, b ≠ 10) → ∀ p ∈ (recov n ls).1, ∀ b ∈ p, b ≠ 10 := by
  intro ls
  induction ls with
  | nil => intro n _ p hp; cases hp
  | cons l r ih =>
    intro n h p hp
    cases hg : good n l
    · rw [recov_no hg] at hp; cases hp
    · rw [recov_yes hg] at hp
      rcases List.mem_cons.1 hp with rfl | hp
      · intro b hb
        exact h l List.mem_cons_self b (List.mem_of_mem_drop hb)
      · exact ih _ (fun p hp => h p (List.mem_cons_of_mem _ hp)) p hp

/-- Digits are neither blanks nor ends. -/
theorem dec_digit : ∀ (k : Nat), ∀ b ∈ Lib.decDigits k, 48 ≤ b.toNat := by
  intro k
  induction k using Nat.strongRecOn with
  | _ k ih =>
    intro b hb
    by_cases h : k < 10
    · rw [Lib.decDigits_one h] at hb
      rw [List.mem_singleton.1 hb]
      have : (UInt8.ofNat (48 + k)).toNat = 48 + k := by simp [UInt8.toNat_ofNat]; omega
      omega
    · rw [Lib.decDigits, dif_neg h] at hb
      rcases List.mem_append.1 hb with hb | hb
      · exact ih (k / 10) (by omega) b hb
      · rw [List.mem_singleton.1 hb]
        have : (UInt8.ofNat (48 + k % 10)).toNat = 48 + k % 10 := by simp [UInt8.toNat_ofNat]; omega
        omega
theorem ck_digits (n : Int) (l : List UInt8) (h0 : 0 ≤ n) (h1 : n ≤ 65002) : ∀ b ∈ Lib.itoa (ck n l), b ≠ 32 ∧ b ≠ 10 := by
  have hb := ck_bound n l h0 h1
  obtain ⟨m, hm⟩ := Int.eq_ofNat_of_zero_le hb.1
  rw [hm, Lib.itoa_nonneg]
  intro b hb
  have := dec_digit m b hb
  refine ⟨fun e => ?_, fun e => ?_⟩ <;> · subst e; revert this; decide
theorem fi_front (a r : List UInt8) (h : ∀ b ∈ a, b ≠ 32) : fi (a ++ 32 :: r) = a.length := by
  induction a with
  | nil => rw [List.nil_append, fi_cons, if_pos rfl]; rfl
  | cons b t ih =>
    rw [List.cons_append, fi_cons, if_neg (h b List.mem_cons_self), ih (fun c hc => h c (List.mem_cons_of_mem _ hc))]
    rfl
theorem good_entry (n : Int) (l : List UInt8) (h0 : 0 ≤ n) (h1 : n ≤ 65002) : good n (Lib.itoa (ck n l) ++ 32 :: l) = true ∧ (Lib.itoa (ck n l) ++ 32 :: l).drop (fi (Lib.itoa (ck n l) ++ 32 :: l) + 1) = l := by
  have hf := fi_front (Lib.itoa (ck n l)) l (fun b hb => (ck_digits n l h0 h1 b hb).1)
  have hd : (Lib.itoa (ck n l) ++ 32 :: l).drop ((Lib.itoa (ck n l)).length + 1) = l := by
    rw [show Lib.itoa (ck n l) ++ 32 :: l = (Lib.itoa (ck n l) ++ [32]) ++ l by simp]
    rw [List.drop_left' (by simp)]
  refine ⟨?_, by rw [hf]; exact hd⟩
  unfold good
  rw [hf, hd]
  simp
/-- The entries of lines are recovered, and what follows them. -/
theorem recov_ents : ∀ (L : List (List UInt8)) (n : Int) (X : List (List UInt8)), 0 ≤ n → n ≤ 65002 → ∃ q : List (List UInt8) × Nat, recov n (ents n L ++ X) = (L ++ q.1, (flat (ents n L)).length + q.2) ∧ (X = [] → q = ([], 0)) := by
  intro L
  induction L with
  | nil =>
    intro n X _ _
    refine ⟨recov n X, ?_, fun h => by subst h; rfl⟩
    show recov n X = _
    simp [ents, flat]
  | cons l r ih =>
    intro n X h0 h1
    obtain ⟨g1, g2⟩ := good_entry n l h0 h1
    have hb := ck_bound n l h0 h1
    obtain ⟨q, hq, hx⟩ := ih (ck n l) X hb.1 hb.2
    refine ⟨q, ?_, hx⟩
    show recov n ((Lib.itoa (ck n l) ++ 32 :: l) :: (ents (ck n l) r ++ X)) = _
    rw [recov_yes g1, g2, hq]
    show _ = (l :: (r ++ q.1), (flat ((Lib.itoa (ck n l) ++ 32 :: l) :: ents (ck n l) r)).length + q.2)
    rw [flat_cons]
    simp only [List.length_append, List.length_cons, Prod.mk.injEq, true_and]
    omega
theorem ents_take : ∀ (L : List (List UInt8)) (n : Int) (j : Nat), (ents n L).take j = ents n (L.take j) := by
  intro L
  induction L with
  | nil => intro n j; cases j <;> rfl
  | cons l r ih =>
    intro n j
    cases j with
    | zero => rfl
    | succ j =>
      show _ :: (ents (ck n l) r).take j = _ :: ents (ck n l) (r.take j)
      rw [ih]
theorem ents_mark : ∀ (L : List (List UInt8)) (n : Int), 0 ≤ n → n ≤ 65002 → (∀ p ∈ L, ∀ b ∈ p, b ≠ 10) → ∀ p ∈ ents n L, ∀ b ∈ p, b ≠ 10 := by
  intro L
  induction L with
  | nil => intro n _ _ _ p hp; cases hp
  | cons l r ih =>
    intro n h0 h1 h p hp b hb
    have hk := ck_bound n l h0 h1
    rcases List.mem_cons.1 hp with rfl | hp
    · rcases List.mem_append.1 hb with hb | hb
      · exact (ck_digits n l h0 h1 b hb).2
      · rcases List.mem_cons.1 hb with rfl | hb
        · decide
        · exact h l List.mem_cons_self b hb
    · exact ih (ck n l) hk.1 hk.2 (fun p hp => h p (List.mem_cons_of_mem _ hp)) p hp b hb
/-- A beginning of lines: some complete ones, and a beginning of one. -/
theorem take_split : ∀ (E : List (List UInt8)) (at' : Nat), (∀ p ∈ E, ∀ b ∈ p, b ≠ 10) → at' ≤ (flat E).length → ∃ (j : Nat) (p : List UInt8), j ≤ E.length ∧ (flat E).take at' = flat (E.take j) ++ p ∧ (∀ b ∈ p, b ≠ 10) := by
  intro E
  induction E with
  | nil =>
    intro at' _ h
    exact ⟨0, [], Nat.le_refl _, by simp [flat], by simp⟩
  | cons l r ih =>
    intro at' hE h
    by_cases hl : at' ≤ l.length
    · refine ⟨0, l.take at', Nat.zero_le _, ?_, fun b hb => hE l List.mem_cons_self b (List.mem_of_mem_take hb)⟩
      rw [flat_cons, List.take_append_of_le_length hl]
      simp [flat]
    · rw [flat_cons] at h ⊢
      simp only [List.length_append, List.length_cons] at h
      obtain ⟨j, p, hj, hp, hm⟩ := ih (at' - (l.length + 1)) (fun p hp => hE p (List.mem_cons_of_mem _ hp)) (by omega)
      refine ⟨j + 1, p, by simp; omega, ?_, hm⟩
      have e : (l ++ [10]).length = l.length + 1 := by simp
      rw [show l ++ 10 :: flat r = (l ++ [10]) ++ flat r by simp, List.take_append, e, List.take_of_length_le (i := at') (l := l ++ [10]) (by rw [e]; omega), hp, List.take_succ_cons, flat_cons]
      simp
theorem parts_lines : ∀ (E : List (List UInt8)) (r : List UInt8), (∀ p ∈ E, ∀ b ∈ p, b ≠ 10) → parts 10 [] (flat E ++ r) = E ++ parts 10 [] r := by
  intro E
  induction E with
  | nil => intro r _; simp [flat]
  | cons l t ih =>
    intro r h
    rw [flat_cons, List.append_assoc, List.cons_append, parts_some 10 l _ [] (fun b hb => h l List.mem_cons_self b hb), ih r (fun p hp => h p (List.mem_cons_of_mem _ hp))]
    rfl
/-- How many ends of lines there are. -/
def cnt (l : List UInt8) : Nat := l.countP (· == 10)
theorem cnt_none (l : List UInt8) (h : ∀ b ∈ l, b ≠ 10) : cnt l = 0 := by
  unfold cnt
  rw [List.countP_eq_zero]
  intro b hb
  simpa using h b hb
theorem cnt_flat : ∀ (E : List (List UInt8)), (∀ p ∈ E, ∀ b ∈ p, b ≠ 10) → cnt (flat E) = E.length := by
  intro E
  induction E with
  | nil => intro _; rfl
  | cons l r ih =>
    intro h
    have h1 := cnt_none l (fun b hb => h l List.mem_cons_self b hb)
    have h2 := ih (fun p hp => h p (List.mem_cons_of_mem _ hp))
    rw [flat_cons]
    unfold cnt at *
    rw [List.countP_append, List.countP_cons, h1, h2]
    simp

/-- Of a journal that is cut at a place: what is recovered, and how many bytes of it. -/
theorem cut_law (L : List (List UInt8)) (hL : ∀ p ∈ L, ∀ b ∈ p, b ≠ 10) (at' : Nat) (hat : at' ≤ (jrn 0 L).length) :
    (recov 0 (parts 10 [] ((jrn 0 L).take at')).dropLast).1 = L.take (cnt ((jrn 0 L).take at')) ∧ cnt ((jrn 0 L).take at') ≤ L.length ∧ (recov 0 (parts 10 [] ((jrn 0 L).take at')).dropLast).2 ≤ at' ∧
    ∀ (c : UInt8), (recov 0 (parts 10 [] ((jrn 0 L).take at')).dropLast).2 ≤ (recov 0 (parts 10 [] ((jrn 0 L).take at' ++ c :: (jrn 0 L).drop (at' + 1))).dropLast).2 := by
  have hm := ents_mark L 0 (by omega) (by omega) hL
  rw [jrn_ents] at hat ⊢
  obtain ⟨j, p, hj, hp, hpm⟩ := take_split (ents 0 L) at' hm hat
  have hm2 : ∀ q ∈ ents 0 (L.take j), ∀ b ∈ q, b ≠ 10 := by
    rw [← ents_take]
    exact fun q hq => hm q (List.mem_of_mem_take hq)
  rw [ents_length] at hj
  have hlen := congrArg List.length hp
  rw [List.length_take, List.length_append, Nat.min_eq_left hat] at hlen
  have hc : cnt ((flat (ents 0 L)).take at') = j := by
    rw [hp]
    have h1 := cnt_flat _ (fun q hq => hm q (List.mem_of_mem_take (i := j) hq))
    have h2 := cnt_none p hpm
    unfold cnt at *
    rw [List.countP_append, h1, h2, List.length_take, ents_length]
    omega
  have e1 : (parts 10 [] ((flat (ents 0 L)).take at')).dropLast = ents 0 (L.take j) ++ [] := by
    rw [hp, ents_take, parts_lines _ _ hm2, parts_none 10 p [] hpm, List.nil_append, List.dropLast_concat, List.append_nil]
  obtain ⟨q, hq, hq0⟩ := recov_ents (L.take j) 0 [] (by omega) (by omega)
  have hq1 := hq0 rfl
  subst hq1
  rw [e1, hq, hc]
  refine ⟨by simp, hj, ?_, fun c => ?_⟩
  · rw [← ents_take]; show (flat ((ents 0 L).take j)).length + 0 ≤ at'; omega
  · have e2 : (parts 10 [] ((flat (ents 0 L)).take at' ++ c :: (flat (ents 0 L)).drop (at' + 1))).dropLast = ents 0 (L.take j) ++ (parts 10 [] (p ++ c :: (flat (ents 0 L)).drop (at' + 1))).dropLast := by
      rw [hp, ents_take, List.append_assoc, parts_lines _ _ hm2, List.dropLast_append_of_ne_nil (parts_ne 10 [] _)]
    obtain ⟨q2, hq2, _⟩ := recov_ents (L.take j) 0 (parts 10 [] (p ++ c :: (flat (ents 0 L)).drop (at' + 1))).dropLast (by omega) (by omega)
    rw [e2, hq2]
    show _ + 0 ≤ _ + q2.2
    omega
end Go.Proofs.YtldnldgndjbhfaaDoor
