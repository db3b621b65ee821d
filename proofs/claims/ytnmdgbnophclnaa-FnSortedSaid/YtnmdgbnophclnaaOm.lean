/- Plain law: the order of a cloud, cell by cell; and the bound on the bytes that a law reads. -/
import Derived.Test.YtnmdgbnophclnaaOl
namespace Go.Proofs.Ytnmdgbnophclnaa
open Go.RowKit Go.Sort Ieee
set_option linter.unusedSimpArgs false
set_option linter.unusedVariables false

theorem flat_at (L : Nat → List Nat) : ∀ (K k i : Nat), k < K → i < (L k).length → ((List.range K).flatMap L)[((List.range k).map fun c => (L c).length).sum + i]? = (L k)[i]?
  | 0, k, i, hk, _ => absurd hk (Nat.not_lt_zero _)
  | K + 1, k, i, hk, hi => by
    rw [List.range_succ, List.flatMap_append]
    by_cases h : k < K
    · have ih := flat_at L K k i h hi
      obtain ⟨hl, _⟩ := List.getElem?_eq_some_iff.1 (ih.trans (List.getElem?_eq_getElem hi))
      rw [List.getElem?_append_left hl, ih]
    · obtain rfl : k = K := by omega
      have e : ((List.range k).flatMap L).length = ((List.range k).map fun c => (L c).length).sum := List.length_flatMap
      rw [List.getElem?_append_right (by omega), e, Nat.add_sub_cancel_left]
      simp
theorem count_to (W H : Nat) (ps : List QP) (k : Nat) : ∀ i, i ≤ ps.length → ((ps.take i).map (cellN W H)).count k = (inTo W H ps k i).length
  | 0, _ => by simp [inTo]
  | i + 1, hi => by
    have ih := count_to W H ps k i (by omega)
    rw [List.take_succ_eq_append_getElem (by omega), List.map_append, List.count_append, ih, List.map_cons, List.map_nil, List.count_cons, List.count_nil, ← keyOf_at W H ps i (by omega)]
    by_cases h : keyOf W H ps i = k
    · rw [inTo_hit W H ps k i h, List.length_append, h]; simp
    · rw [inTo_miss W H ps k i h]
      simp [h]
theorem count_in (W H : Nat) (ps : List QP) (k : Nat) : (ps.map (cellN W H)).count k = (inC W H ps k).length := by
  have e := count_to W H ps k ps.length (Nat.le_refl _)
  rw [List.take_length] at e
  exact e
theorem cntL_at (W H : Nat) (h : Sides W H) (ps : List QP) (k : Nat) (hk : k < (cntL W H ps).length) : (cntL W H ps)[k] = (inC W H ps k).length := by
  rw [← count_in]
  unfold cntL at hk ⊢
  exact cntK_at _ _ (fun x hx => by obtain ⟨p, _, rfl⟩ := List.mem_map.1 hx; exact cellN_lt W H h p) k hk
theorem cntL_eq (W H : Nat) (h : Sides W H) (ps : List QP) : cntL W H ps = (List.range (W * H)).map fun c => (inC W H ps c).length := by
  apply List.ext_getElem
  · rw [cntL_length, List.length_map, List.length_range]
  · intro k h1 h2
    rw [cntL_at W H h ps k h1, List.getElem_map, List.getElem_range]
/-- How many are before a cell. -/
def before (W H : Nat) (ps : List QP) (k : Nat) : Nat := ((List.range k).map fun c => (inC W H ps c).length).sum
theorem before_succ (W H : Nat) (ps : List QP) (k : Nat) : before W H ps (k + 1) = before W H ps k + (inC W H ps k).length := by
  unfold before
  rw [List.range_succ, List.map_append, List.sum_append]
  simp
theorem starts_at (W H : Nat) (h : Sides W H) (ps : List QP) (k : Nat) (hk : k < (startsL (cntL W H ps)).length) : (startsL (cntL W H ps))[k] = before W H ps k := by
  rw [startsL_at, cntL_eq W H h ps, ← List.map_take, List.take_range, Nat.min_eq_left (by
    rw [startsL_length, cntL_length] at hk; omega)]
  rfl
theorem order_in (W H : Nat) (ps : List QP) (k i : Nat) (hk : k < W * H) (hi : i < (inC W H ps k).length) : (orderL W H ps)[before W H ps k + i]? = (inC W H ps k)[i]? :=
  flat_at (fun c => inC W H ps c) (W * H) k i hk hi
theorem before_all (W H : Nat) (h : Sides W H) (ps : List QP) : before W H ps (W * H) = ps.length := by
  have e : (orderL W H ps).length = before W H ps (W * H) := List.length_flatMap
  rw [← e, orderL_length W H h]
theorem before_mono (W H : Nat) (ps : List QP) (k : Nat) : ∀ d, before W H ps k ≤ before W H ps (k + d)
  | 0 => Nat.le_refl _
  | d + 1 => by
    have := before_mono W H ps k d
    rw [← Nat.add_assoc, before_succ]; omega
theorem before_le (W H : Nat) (h : Sides W H) (ps : List QP) (k : Nat) (hk : k ≤ W * H) : before W H ps k ≤ ps.length := by
  have := before_mono W H ps k (W * H - k)
  rwa [Nat.add_sub_cancel' hk, before_all W H h] at this
theorem orderL_ord (W H : Nat) (ps : List QP) (i : Nat) (hi : i + 1 < (orderL W H ps).length) : Ord (keyOf W H ps) ((orderL W H ps)[i]'(by omega)) ((orderL W H ps)[i + 1]) :=
  List.pairwise_iff_getElem.1 (byKey_sorted (keyOf W H ps) (W * H) ps.length) i (i + 1) (by unfold orderL at hi; omega) (by unfold orderL at hi; omega) (by omega)
theorem sorted_key (W H : Nat) (h : Sides W H) (ps : List QP) (i : Nat) (hi : i < (orderL W H ps).length) (h2 : i < ((sortQ W H ps).map (cellN W H)).length) : ((sortQ W H ps).map (cellN W H))[i] = keyOf W H ps (orderL W H ps)[i] := by
  have hx := orderL_in W H h ps _ (List.getElem_mem hi)
  rw [keyOf_at W H ps _ hx, List.getElem_map]
  congr 1
  unfold sortQ pickQ
  rw [List.getElem_map, List.getD_eq_getElem?_getD, List.getElem?_eq_getElem hx, Option.getD_some]

theorem b10Long_any (a b : Option Addr) (n1 c1 n2 c2 : Nat) (w : World) : Calls Try.prog 6 #[.slice a n1 c1, .slice b n2 c2] w fun e w' => e = .returned (.bool (decide (1048576 < n1) || decide (1048576 < n2))) ∧ w' = w := by
  cases h1 : decide (1048576 < n1)
  · have h1' : decide ((1048576 : Int) < (n1 : Int)) = false := by simp at h1 ⊢; omega
    have e2 : decide ((1048576 : Int) < (n2 : Int)) = decide (1048576 < n2) := by rw [decide_eq_decide]; omega
    go_enter Try.func6, Try.ntmps6
    go_wp2
    go_ret
    exact ⟨by simp, rfl⟩
  · have h1' : decide ((1048576 : Int) < (n1 : Int)) = true := by simp at h1 ⊢; omega
    go_enter Try.func6, Try.ntmps6
    go_wp2
    go_ret
    exact ⟨by simp, rfl⟩
end Go.Proofs.Ytnmdgbnophclnaa
