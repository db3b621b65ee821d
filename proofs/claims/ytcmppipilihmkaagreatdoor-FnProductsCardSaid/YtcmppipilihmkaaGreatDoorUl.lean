/- Contracts: a text cut at any mark; the program's readings of lists; plain: what a particle's text says. -/
import Derived.Test.YtcmppipilihmkaaGreatDoorUk
import Derived.Test.YtcmppipilihmkaaGreatDoorValid
namespace Go.Proofs.YtcmppipilihmkaaGreatDoor
open Go.RowKit Go.Sort
set_option linter.unusedSimpArgs false
set_option linter.unusedVariables false

/-- The two sides of the first mark. -/
def cutL (m : UInt8) (l : List UInt8) : List UInt8 := l.take (gi m l)
def cutR (m : UInt8) (l : List UInt8) : List UInt8 := l.drop (gi m l + 1)
def cutB (m : UInt8) (l : List UInt8) : Bool := decide (gi m l < l.length)

set_option maxHeartbeats 1000000 in
theorem ReadComplex_any (l : List UInt8) (w : World) (hmax : l.length ≤ 1100000) (hmx : MX w) (her : ER w) (htz : TZ w) :
    Calls Tryz.prog 18 #[.string (tx l)] w fun e w' => GRs goodc cv 24 w.heap.size l e w' ∧ Below w.heap.size w w' := by
  have RT := keep (readTexts_c l w hmax hmx her htz)
  clear hmx her htz
  go_enter Tryz.func18, Tryz.ntmps18
  go_wp2_with fail
  refine RT.out.mono ?_
  rintro e w1 ⟨hg, hb⟩
  have HB := keep hb
  clear hb
  rcases hg with ⟨gn, rfl⟩ | ⟨cs, A, c, gs, rfl, ho⟩
  · have GN := keep gn
    clear gn
    go_wp2_with fail
    go_ret2
    exact ⟨.inl ⟨GN.out, rfl⟩, HB.out⟩
  · have GS := keep gs
    have HO := keep ho
    clear gs ho
    go_wp2_with fail
    go_ret2
    exact ⟨.inr ⟨cs, A, c, GS.out, rfl, HO.out⟩, HB.out⟩

set_option maxHeartbeats 1000000 in
theorem ReadNumbers_any (l : List UInt8) (w : World) (hmax : l.length ≤ 1100000) (hmx : MX w) (her : ER w) (htz : TZ w) :
    Calls Tryz.prog 32 #[.string (tx l)] w fun e w' => GRs goodw fvw 28 w.heap.size l e w' ∧ Below w.heap.size w w' := by
  have RT := keep (readTexts_f l w hmax hmx her htz)
  clear hmx her htz
  go_enter Tryz.func32, Tryz.ntmps32
  go_wp2_with fail
  refine RT.out.mono ?_
  rintro e w1 ⟨hg, hb⟩
  have HB := keep hb
  clear hb
  rcases hg with ⟨gn, rfl⟩ | ⟨cs, A, c, gs, rfl, ho⟩
  · have GN := keep gn
    clear gn
    go_wp2_with fail
    go_ret2
    exact ⟨.inl ⟨GN.out, rfl⟩, HB.out⟩
  · have GS := keep gs
    have HO := keep ho
    clear gs ho
    go_wp2_with fail
    go_ret2
    exact ⟨.inr ⟨cs, A, c, GS.out, rfl, HO.out⟩, HB.out⟩

/-! ### What a particle's text says -/

/-- A particle's words: place, speed, charge, mass. -/
abbrev W6 := Nat × Nat × Nat × Nat × Nat × Nat
/-- A particle out of two lists. -/
def comb : Option (List (Nat × Nat)) → Option (List Nat) → Option W6
  | some [p, r], some [x, y] => if validP p.1 p.2 r.1 r.2 x y then some (p.1, p.2, r.1, r.2, x, y) else none
  | _, _ => none
theorem comb_left (b : Option (List Nat)) : comb none b = none := by unfold comb; cases b <;> rfl
theorem comb_right (a : Option (List (Nat × Nat))) : comb a none = none := by
  unfold comb
  split
  · rename_i h; cases h
  · rfl
theorem comb_len1 (a : List (Nat × Nat)) (b : Option (List Nat)) (h : a.length ≠ 2) : comb (some a) b = none := by
  unfold comb
  split
  · rename_i h1; injection h1 with h1; subst h1; exact absurd rfl h
  · rfl
theorem comb_len2 (a : Option (List (Nat × Nat))) (b : List Nat) (h : b.length ≠ 2) : comb a (some b) = none := by
  unfold comb
  split
  · rename_i h2; injection h2 with h2; subst h2; exact absurd rfl h
  · rfl
theorem comb_two (p r : Nat × Nat) (x y : Nat) : comb (some [p, r]) (some [x, y]) = if validP p.1 p.2 r.1 r.2 x y then some (p.1, p.2, r.1, r.2, x, y) else none := rfl
/-- The particle with a text. -/
def readP (l : List UInt8) : Option W6 := match parts 58 [] l with
  | [a, b] => comb (goodL goodc a) (goodL goodw b)
  | _ => none
theorem valF_bad (m : UInt8) (hm : dv m = none) : ∀ (l : List UInt8) (n : Nat), m ∈ l → valF n l = none := by
  intro l
  induction l with
  | nil => intro n h; cases h
  | cons a r ih =>
    intro n h
    cases hd : dv a with
    | none => exact valF_stop hd
    | some d =>
      rw [valF_step hd]
      refine ih _ ?_
      rcases List.mem_cons.1 h with rfl | h
      · rw [hm] at hd; cases hd
      · exact h
theorem goodw_bad (m : UInt8) (hm : dv m = none) (l : List UInt8) (h : m ∈ l) : goodw l = none := by
  unfold goodw hv8
  split
  · rw [valF_bad m hm l 0 h]; rfl
  · rfl
theorem mem_parts (k m : UInt8) (hk : m ≠ k) : ∀ (l cur : List UInt8), (m ∈ l ∨ m ∈ cur) → ∃ q ∈ parts k cur l, m ∈ q := by
  intro l
  induction l with
  | nil =>
    intro cur h
    rcases h with h | h
    · cases h
    · exact ⟨cur, by simp [parts], h⟩
  | cons a r ih =>
    intro cur h
    rw [parts_cons]
    split
    · rename_i ha
      rcases h with h | h
      · rcases List.mem_cons.1 h with rfl | h
        · exact absurd ha hk
        · obtain ⟨q, hq, hm⟩ := ih [] (.inl h)
          exact ⟨q, List.mem_cons_of_mem _ hq, hm⟩
      · exact ⟨cur, List.mem_cons_self, h⟩
    · refine ih _ ?_
      rcases h with h | h
      · rcases List.mem_cons.1 h with rfl | h
        · exact .inr (by simp)
        · exact .inl h
      · exact .inr (by simp [h])
theorem allOf_bad {α β : Type} {f : α → Option β} : ∀ {l : List α} {a : α}, a ∈ l → f a = none → allOf f l = none := by
  intro l
  induction l with
  | nil => intro a h; cases h
  | cons b r ih =>
    intro a h hf
    rcases List.mem_cons.1 h with rfl | h
    · exact allOf_none hf
    · cases hb : f b with
      | none => exact allOf_none hb
      | some c => rw [allOf_some hb, ih h hf]; rfl
theorem goodL_bad (m : UInt8) (hm : dv m = none) (h44 : m ≠ 44) (l : List UInt8) (hn : l ≠ [110, 111, 110, 101]) (h : m ∈ l) : goodL goodw l = none := by
  rw [goodL_else hn]
  split
  · rfl
  · obtain ⟨q, hq, hmq⟩ := mem_parts 44 m h44 l [] (.inl h)
    exact allOf_bad hq (goodw_bad m hm q hmq)
theorem gi_lt_of_mem (m : UInt8) (l : List UInt8) (h : m ∈ l) : gi m l < l.length := by
  by_cases hg : gi m l < l.length
  · exact hg
  · exact absurd rfl (gi_none m l hg m h)
/-- The program's cut says the same. -/
theorem readP_cut (l : List UInt8) : readP l = comb (goodL goodc (cutL 58 l)) (goodL goodw (cutR 58 l)) := by
  unfold readP
  by_cases hg : gi 58 l < l.length
  · have e := parts_some 58 (l.take (gi 58 l)) (l.drop (gi 58 l + 1)) [] (gi_take 58 _)
    rw [← gi_split 58 _ hg, List.nil_append] at e
    rw [e]
    by_cases hr : (58 : UInt8) ∈ l.drop (gi 58 l + 1)
    · have hb : goodL goodw (cutR 58 l) = none := goodL_bad 58 (by decide) (by decide) _ (by
        intro e2
        unfold cutR at e2
        rw [e2] at hr
        exact absurd hr (by decide)) hr
      rw [hb, comb_right]
      have e2 := parts_some 58 ((l.drop (gi 58 l + 1)).take (gi 58 (l.drop (gi 58 l + 1)))) ((l.drop (gi 58 l + 1)).drop (gi 58 (l.drop (gi 58 l + 1)) + 1)) [] (gi_take 58 _)
      rw [← gi_split 58 _ (gi_lt_of_mem 58 _ hr), List.nil_append] at e2
      rw [e2]
      have hne := parts_ne 58 [] ((l.drop (gi 58 l + 1)).drop (gi 58 (l.drop (gi 58 l + 1)) + 1))
      cases hp : parts 58 [] ((l.drop (gi 58 l + 1)).drop (gi 58 (l.drop (gi 58 l + 1)) + 1)) with
      | nil => exact absurd hp hne
      | cons a r => rfl
    · rw [parts_none 58 (l.drop (gi 58 l + 1)) [] (fun b hb e => hr (by subst e; exact hb)), List.nil_append]
      rfl
  · rw [parts_none 58 l [] (gi_none 58 l hg), List.nil_append]
    have e : cutR 58 l = [] := by
      unfold cutR
      exact List.drop_eq_nil_of_le (by omega)
    rw [e, show goodL goodw [] = none by decide +kernel, comb_right]
theorem readP_two {l a b : List UInt8} (h : parts 58 [] l = [a, b]) : readP l = comb (goodL goodc a) (goodL goodw b) := by
  unfold readP
  rw [h]
theorem readP_else {l : List UInt8} (h : (parts 58 [] l).length ≠ 2) : readP l = none := by
  unfold readP
  split
  · rename_i h2; rw [h2] at h; exact absurd rfl h
  · rfl
/-- What a reading of a particle hands back. -/
def rpOut : Option W6 → Array Value
  | some (a, b, c, d, x, y) => #[.agg (pCells a b c d x y), .bool true]
  | none => #[.agg (pCells 0 0 0 0 0 0), .bool false]
theorem readP_ok {l : List UInt8} {a b c d x y : Nat} (h : readP l = some (a, b, c, d, x, y)) : validP a b c d x y = true := by
  rw [readP_cut] at h
  unfold comb at h
  split at h
  · split at h
    · rename_i hv
      injection h with h
      simp only [Prod.mk.injEq] at h
      obtain ⟨rfl, rfl, rfl, rfl, rfl, rfl⟩ := h
      exact hv
    · cases h
  · cases h
end Go.Proofs.YtcmppipilihmkaaGreatDoor
