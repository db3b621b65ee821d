/- The law FnExactRecoverJournal by its walk: the program's RecoverJournal returns what the reference's returns. The table of powers of ten is a premise. -/
import Derived.Test.YtldnldgndjbhfaaDoorTw
import Derived.Test.YtldnldgndjbhfaaDoorTx
namespace Go.Proofs.YtldnldgndjbhfaaDoor
open Go.RowKit Go.Sort
set_option linter.unusedSimpArgs false

theorem parts_last (m : UInt8) (l cur : List UInt8) (h : ∀ b ∈ cur, b ≠ m) : ∀ b ∈ (parts m cur l).getLastD [], b ≠ m := by
  induction l generalizing cur with
  | nil => simpa [parts] using h
  | cons b r ih =>
    rw [parts_cons]
    split
    · have hn := parts_ne m [] r
      obtain ⟨p, q, e⟩ : ∃ p q, parts m [] r = p :: q := by
        cases hp : parts m [] r with
        | nil => exact absurd hp hn
        | cons p q => exact ⟨p, q, rfl⟩
      have h2 := ih [] (by simp)
      rw [e] at h2 ⊢
      simpa using h2
    · rename_i hb
      exact ih (cur ++ [b]) (fun x hx => by
        rcases List.mem_append.1 hx with h1 | h1
        · exact h x h1
        · rw [List.mem_singleton.1 h1]; exact hb)

def tl (ps : List (List UInt8)) : Nat := (ps.map fun p => p.length + 1).sum
theorem tl_parts (m : UInt8) (l cur : List UInt8) : tl (parts m cur l) = cur.length + l.length + 1 := by
  induction l generalizing cur with
  | nil => simp [parts, tl]
  | cons b r ih =>
    rw [parts_cons]
    split
    · have h := ih []
      unfold tl at *
      simp at h ⊢
      omega
    · rw [ih]; simp; omega
theorem tl_dropLast (ps : List (List UInt8)) : tl ps.dropLast ≤ tl ps := by
  unfold tl
  by_cases h : ps = []
  · subst h; simp
  · conv => rhs; rw [← List.dropLast_concat_getLast h]
    simp
theorem recov_small (ls : List (List UInt8)) (c : Int) : tot ((recov c ls).1.map tx) + (recov c ls).1.length ≤ (recov c ls).2 ∧ (recov c ls).2 ≤ tl ls := by
  induction ls generalizing c with
  | nil => simp [recov, tot, tl]
  | cons l r ih =>
    cases hg : good c l
    · rw [recov_no hg]; simp [tot]
    · rw [recov_yes hg]
      have h := ih (ck c (l.drop (fi l + 1)))
      have hl : (tx (l.drop (fi l + 1))).size ≤ l.length := by rw [tx_size, List.length_drop]; omega
      generalize recov (ck c (l.drop (fi l + 1))) r = q at *
      unfold tl at *
      simp only [List.map_cons, List.length_cons, List.sum_cons]
      rw [show tot (tx (l.drop (fi l + 1)) :: q.1.map tx) = (tx (l.drop (fi l + 1))).size + tot (q.1.map tx) by simp [tot]]
      omega

/-- What is recovered of a text. -/
def JR (s : ByteArray) : List (List UInt8) × Nat := if s.size ≤ 12000 then recov 0 (lnsOf s) else ([], 0)
theorem JR_small (s : ByteArray) : small ((JR s).1.map tx) ∧ (JR s).1.length ≤ 12001 := by
  unfold JR small
  split
  · rename_i h
    have h1 := recov_small (lnsOf s) 0
    have h2 := tl_dropLast (parts 10 [] s.data.toList)
    rw [tl_parts, bytes_len] at h2
    have h3 : tl (lnsOf s) ≤ s.size + 1 := by unfold lnsOf; simpa using h2
    rw [List.length_map]
    omega
  · simp [tot]

/-- What both hand back. -/
def RJ (s : ByteArray) (w : World) (e : Ending) (w' : World) : Prop :=
  ∃ (A : Option Addr) (c : Nat), e = .returned (.tuple #[.slice A (JR s).1.length c, .int .i64 ((JR s).2 : Int), .bool (decide (s.size ≤ 12000))]) ∧ w'.ownsRow w.heap.size 9 1 (.slice A (JR s).1.length c) (JR s).1.length (sv ((JR s).1.map tx)) ∧ Below w.heap.size w w'

set_option maxHeartbeats 2000000 in
theorem iRecover_any (s : ByteArray) (w : World) (htab : P10 w) : Calls Tryd.prog 9 #[.string s] w (RJ s w) := by
  unfold RJ JR
  have IS := keep (fun w => isScript_any s w)
  by_cases h : s.size ≤ 12000
  · rw [if_pos h, decide_eq_true h]
    have hD : decide ((s.size : Int) ≤ 12000) = true := decide_eq_true (by omega)
    rw [hD] at IS
    have R := recovered_any s.data.toList w (by rw [bytes_len]; exact h) htab
    rw [irun_lines _ 0 (parts_last 10 s.data.toList [] (by simp)), ← tx_of] at R
    have R := keep R
    change Kept (Calls _ _ _ _ fun e w' => ∃ (A : Option Addr) (c : Nat), e = .returned (.tuple #[.slice A (recov 0 (lnsOf s)).1.length c, .int .i64 ((recov 0 (lnsOf s)).2 : Int)]) ∧ w'.ownsRow w.heap.size 9 1 (.slice A (recov 0 (lnsOf s)).1.length c) (recov 0 (lnsOf s)).1.length (sv ((recov 0 (lnsOf s)).1.map tx)) ∧ Below w.heap.size w w') at R
    generalize recov 0 (lnsOf s) = q at *
    clear hD htab
    go_enter Tryd.func9, Tryd.ntmps9
    go_wp2_with fail
    refine (IS.out _).mono ?_
    rintro e w0 ⟨rfl, hw0⟩
    have hw0 := hw0.symm
    subst hw0
    go_wp2_with fail
    refine R.out.mono ?_
    rintro e w1 ⟨A, c, rfl, ho, hb⟩
    have HO := keep ho
    have HB := keep hb
    clear ho hb
    go_wp2_with fail
    go_ret3
    exact ⟨A, c, rfl, HO.out, HB.out⟩
  · rw [if_neg h, decide_eq_false h]
    have hD : decide ((s.size : Int) ≤ 12000) = false := decide_eq_false (by omega)
    rw [hD] at IS
    clear hD
    go_enter Tryd.func9, Tryd.ntmps9
    go_wp2_with fail
    refine (IS.out _).mono ?_
    rintro e w0 ⟨rfl, hw0⟩
    have hw0 := hw0.symm
    subst hw0
    go_wp2_with fail
    go_ret3
    exact ⟨none, 0, rfl, World.ownsRow_nil _ _ _ _, Below.refl _ _⟩

/-- The law's post. -/
def LawTrueR (w : World) (e : Ending) (w' : World) : Prop := e = .returned (.bool true) ∧ Below w.heap.size w w'

end Go.Proofs.YtldnldgndjbhfaaDoor
