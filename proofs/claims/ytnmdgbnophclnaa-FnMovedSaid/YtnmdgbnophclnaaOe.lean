/- Contracts: numbers compared; a list of indices sorted by a function that compares keys, each put back to its place. -/
import Derived.Test.YtnmdgbnophclnaaOd
import Derived.Test.YtnmdgbnophclnaaOa
namespace Go.Proofs.Ytnmdgbnophclnaa
open Go.RowKit Go.Sort Ieee
set_option linter.unusedSimpArgs false

def compV (a b : Nat) : Int := if a < b then -1 else if b < a then 1 else 0

theorem isNaNI_ok (a : Int) (w : World) : Calls Try.prog 120 #[.int .i64 a] w fun e w' => e = .returned (.bool false) ∧ w' = w := by
  go_enter Try.func120, Try.ntmps120
  go_wp2_with fail
  go_ret
  exact ⟨rfl, rfl⟩

theorem CompareI_ok (a b : Nat) (w : World) : Calls Try.prog 91 #[.int .i64 a, .int .i64 b] w fun e w' => e = .returned (.int .i64 (compV a b)) ∧ w' = w := by
  have NA := keep (fun a w => isNaNI_ok a w)
  rcases Nat.lt_trichotomy a b with h | h | h
  · have e1 : compV a b = -1 := if_pos h
    rw [e1]
    have h' : (a : Int) < (b : Int) := by omega
    clear e1
    go_enter Try.func91, Try.ntmps91
    go_wp2_with ((with_reducible refine (NA.out _ _).mono ?_); rintro e w' ⟨rfl, rfl⟩)
    go_ret
    exact ⟨rfl, rfl⟩
  · subst h
    have e1 : compV a a = 0 := by unfold compV; rw [if_neg (Nat.lt_irrefl _), if_neg (Nat.lt_irrefl _)]
    rw [e1]
    clear e1
    go_enter Try.func91, Try.ntmps91
    go_wp2_with ((with_reducible refine (NA.out _ _).mono ?_); rintro e w' ⟨rfl, rfl⟩)
    go_ret
    exact ⟨rfl, rfl⟩
  · have e1 : compV a b = 1 := by unfold compV; rw [if_neg (by omega), if_pos h]
    rw [e1]
    have h' : ¬ (a : Int) < (b : Int) := by omega
    have h2 : (b : Int) < (a : Int) := by omega
    clear e1
    go_enter Try.func91, Try.ntmps91
    go_wp2_with ((with_reducible refine (NA.out _ _).mono ?_); rintro e w' ⟨rfl, rfl⟩)
    go_ret
    exact ⟨rfl, rfl⟩

set_option maxHeartbeats 2000000 in
theorem orderBy_ok (G g n c i j : Nat) (ks : List Nat) (hn : ks.length = n) (hi : i < n) (hj : j < n) (w : World) (h0 : w.cell? ⟨G, 0, none⟩ = some (.slice (some ⟨g, 0, none⟩) n c)) (hk : ∀ i (h : i < ks.length), w.cell? ⟨g, i, none⟩ = some (.int .i64 (ks[i] : Int))) :
    Calls Try.prog 90 #[.int .i64 i, .int .i64 j, .pointer (some ⟨G, 0, none⟩)] w fun e w' => e = .returned (.int .i64 (compV (ks.getD i 0) (ks.getD j 0))) ∧ ∃ m, w' = w.drewN m := by
  have CM := keep (fun a b w => CompareI_ok a b w)
  have k1 := hk i (by omega)
  have k2 := hk j (by omega)
  rw [List.getD_eq_getElem?_getD, List.getD_eq_getElem?_getD, List.getElem?_eq_getElem (by omega), List.getElem?_eq_getElem (by omega)]
  simp only [Option.getD_some]
  generalize ks[i] = a at *
  generalize ks[j] = b at *
  have i1 : (i : Int) < (n : Int) := by omega
  have i2 : (j : Int) < (n : Int) := by omega
  clear hk hn
  go_enter Try.func90, Try.ntmps90
  go_wp2_with fail
  go_quiet (first | (go_at_call 91; exact Calls.quiet_of_same (CM.out _ _ _)))
  go_wp2_with fail
  go_ret
  exact ⟨rfl, _, rfl⟩

/-- A row of numbers of the call's own is what one stores into. -/
def ordC (ptr : Value) : Value := .func (.func 90) #[] #[ptr]
theorem SortTo.end {k : Nat → Nat} {o d : List Nat} {i : Nat} (h : SortTo k o i d) (hi : o.length ≤ i) : d.Perm o ∧ d.Pairwise (Ord k) := by
  obtain ⟨P, rfl, hp, hs⟩ := h
  rw [List.drop_of_length_le hi, List.append_nil]
  rw [List.take_of_length_le hi] at hp
  exact ⟨hp, hs⟩
theorem SortTo.first (k : Nat → Nat) (o : List Nat) : SortTo k o 1 o := by
  cases o with
  | nil => exact ⟨[], rfl, List.Perm.refl _, List.Pairwise.nil⟩
  | cons a o => exact ⟨[a], rfl, List.Perm.refl _, List.pairwise_singleton ..⟩
theorem compV_neg {a b : Nat} : (compV a b < 0) ↔ a < b := by
  unfold compV
  split
  · constructor
    · intro _; assumption
    · intro _; decide
  · rename_i h
    split <;> simp <;> omega
theorem tie_at {k : Nat → Nat} {o : List Nat} (h : o.Pairwise (fun a b => k a = k b → a < b)) {i : Nat} (hi : i < o.length) : ∀ x ∈ o.take i, k x = k o[i] → x < o[i] := by
  intro x hx hk
  obtain ⟨j, hj, rfl⟩ := List.getElem_of_mem hx
  have hj2 : j < i := by rw [List.length_take] at hj; omega
  rw [List.getElem_take] at hk ⊢
  exact List.pairwise_iff_getElem.1 h j i (by omega) hi hj2 hk

set_option maxHeartbeats 4000000 in
set_option maxRecDepth 20000 in
theorem insCmp_ok (k : Nat → Nat) (o : List Nat) (g : Nat) (ptr : Value) (w : World) (hh : Has w g 2 (nCells o))
    (hC : ∀ w1, w.grownBy w1 (some g) → ∀ x ∈ o, ∀ y ∈ o, Calls Try.prog 90 #[.int .i64 x, .int .i64 y, ptr] w1 fun e w' => e = .returned (.int .i64 (compV (k x) (k y))) ∧ ∃ m, w' = w1.drewN m)
    (tie : o.Pairwise (fun a b => k a = k b → a < b)) (hn : o.length ≤ 1000) :
    Calls Try.prog 130 #[.slice (some ⟨g, 0, none⟩) o.length o.length, .int .i64 0, .int .i64 o.length, ordC ptr] w fun e w' => e = .returned (.tuple #[]) ∧ ∃ d, d.Perm o ∧ d.Pairwise (Ord k) ∧ Has w' g 2 (nCells d) ∧ w.grownBy w' (some g) := by
  have HC := keep hC
  have HH := keep hh
  have TI := keep (fun i (hi : i < o.length) => tie_at tie hi)
  have G0 := keep (World.grownBy.refl w (some g))
  clear hC hh tie
  unfold ordC
  go_enter Try.func130, Try.ntmps130
  go_wp2_with fail
  go_loopw [8] (fun s wr => ∃ (i : Nat) (d : List Nat), 1 ≤ i ∧ i ≤ o.length + 1 ∧ s = .int .i64 i ∧ Kept (SortTo k o i d) ∧ Kept (Has wr g 2 (nCells d)) ∧ Kept (w.grownBy wr (some g))) (fun s _ => o.length + 1 - (intOf s).toNat)
  case atStart => exact ⟨1, o, Nat.le_refl _, by omega, rfl, keep (SortTo.first k o), HH, G0⟩
  case round =>
    clear HH G0
    obtain ⟨i, d, hi1, hi2, rfl, hs, hd, hg⟩ := hrel
    by_cases hlt : i < o.length
    · have hb := hs.out.begin hlt
      have HB := keep hb
      have TE := keep (TI.out i hlt)
      clear hb hs
      generalize o[i] = e at *
      go_wp2_with fail
      go_loopw [9] (fun s wr => ∃ (j : Nat) (d : List Nat), s = .int .i64 j ∧ Kept (SortIn k o i j e d) ∧ Kept (Has wr g 2 (nCells d)) ∧ Kept (w.grownBy wr (some g))) (fun s _ => (intOf s).toNat)
      case atStart => exact ⟨i, d, rfl, HB, hd, hg⟩
      case round =>
        clear HB hd hg
        obtain ⟨j, d, rfl, hs, hd, hg⟩ := hrel
        have hll := hs.out.len
        have hjl := hs.out.lt
        cases j with
        | zero =>
          have HN := keep (hs.out.stop TE.out (.inl rfl))
          clear HC
          go_wp2_with fail
          go_quiet (fail)
          go_wp2_with fail
          exact ⟨⟨i + 1, d, by omega, by omega, by go_num, HN, keep (hd.out.draws nq), keep (gb_drawn hg.out nq)⟩, by simp [intOf]; omega⟩
        | succ j =>
          obtain ⟨p, hp⟩ : ∃ p, d[j]? = some p := ⟨_, List.getElem?_eq_getElem (by omega)⟩
          have he := hs.out.at
          have me := hs.out.mem e (List.mem_of_getElem? he)
          have mp := hs.out.mem p (List.mem_of_getElem? hp)
          have ce := (hd.out.cells (j + 1)).trans (show (nCells d)[j + 1]? = some (.int .i64 (e : Int)) by
            unfold nCells
            rw [List.getElem?_toArray, List.getElem?_map, he]; rfl)
          have cp := (hd.out.cells j).trans (show (nCells d)[j]? = some (.int .i64 (p : Int)) by
            unfold nCells
            rw [List.getElem?_toArray, List.getElem?_map, hp]; rfl)
          have ue := hd.out.free (j + 1)
          have up := hd.out.free j
          have CC := keep (fun m => HC.out (wr.drewN m) (gb_drawn hg.out m) e me p mp)
          by_cases hk : k e < k p
          · have e1 : compV (k e) (k p) = -1 := if_pos hk
            rw [e1] at CC
            have HN := keep (hs.out.step hp hk)
            clear e1 hs he hp me mp
            go_wp2_with fail
            go_quiet (first | (go_at_call 90; exact Calls.quiet_of (CC.out _)))
            go_wp2_with fail
            have HD : Kept (Has ((wr.setCell ⟨g, j + 1, none⟩ (.int .i64 (p : Int))).setCell ⟨g, j, none⟩ (.int .i64 (e : Int))) g 2 (nCells ((d.set (j + 1) p).set j e))) := keep (by
              rw [← nCells_set, ← nCells_set]
              exact (hd.out.written (j + 1) (.int .i64 (p : Int))).written j (.int .i64 (e : Int)))
            have HG := keep (gb_store (gb_store hg.out (j + 1) (.int .i64 (p : Int))) j (.int .i64 (e : Int)))
            clear CC HC TE TI hd hg
            go_region
            all_goals (go_wp2_with fail)
            all_goals exact ⟨⟨j, _, rfl, HN, keep (HD.out.draws _), keep (gb_drawn HG.out _)⟩, by simp [intOf]⟩
          · have HN := keep (hs.out.stop TE.out (.inr ⟨p, hp, hk⟩))
            have e1 : decide (compV (k e) (k p) < 0) = false := decide_eq_false (fun h => hk (compV_neg.1 h))
            clear hs he hp me mp
            go_wp2_with fail
            go_quiet (first | (go_at_call 90; exact Calls.quiet_of (CC.out _)))
            go_wp2_with fail
            exact ⟨⟨i + 1, d, by omega, by omega, by go_num, HN, keep (hd.out.draws nq), keep (gb_drawn hg.out nq)⟩, by simp [intOf]; omega⟩
    · have HE := keep (hs.out.end (by omega))
      go_wp2_with fail
      go_end0
      exact ⟨rfl, d, HE.out.1, HE.out.2, hd.out, hg.out⟩
end Go.Proofs.Ytnmdgbnophclnaa
