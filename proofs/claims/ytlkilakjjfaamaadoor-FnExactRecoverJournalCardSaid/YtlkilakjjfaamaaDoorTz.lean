/- The law FnExactRecoverJournal by its walk: the program's RecoverJournal returns what the reference's returns. The table of powers of ten is a premise. -/
import Derived.Test.YtlkilakjjfaamaaDoorTw
import Derived.Test.YtlkilakjjfaamaaDoorTx
namespace Go.Proofs.YtlkilakjjfaamaaDoor
open Go.RowKit Go.Sort
set_option linter.unusedSimpArgs false

theorem parts_last (m : UInt8) (l cur : List UInt8) (h : ∀ b ∈ cur, b ≠ m) : ∀ b ∈ (parts m cur l).getLastD [], b ≠ m := by
  induction l generalizing cur with
  | nil => simpa [parts] using h
  | cons b r ih =>
    rw [parts_cons]
    split
    · have hn := parts_ne m [] r
      obtain ⟨p, q, e⟩ : ∃ p q, parts m [] r = p :: q := by
        cases hp : parts m [] r with
        | nil => exact absurd hp hn
        | cons p q => exact ⟨p, q, rfl⟩
      have h2 := ih [] (by simp)
      rw [e] at h2 ⊢
      simpa using h2
    · rename_i hb
      exact ih (cur ++ [b]) (fun x hx => by
        rcases List.mem_append.1 hx with h1 | h1
        · exact h x h1
        · rw [List.mem_singleton.1 h1]; exact hb)

def tl (ps : List (List UInt8)) : Nat := (ps.map fun p => p.length + 1).sum
theorem tl_parts (m : UInt8) (l cur : List UInt8) : tl (parts m cur l) = cur.length + l.length + 1 := by
  induction l generalizing cur with
  | nil => simp [parts, tl]
  | cons b r ih =>
    rw [parts_cons]
    split
    · have h := ih []
      unfold tl at *
      simp at h ⊢
      omega
    · rw [ih]; simp; omega
theorem tl_dropLast (ps : List (List UInt8)) : tl ps.dropLast ≤ tl ps := by
  unfold tl
  by_cases h : ps = []
  · subst h; simp
  · conv => rhs; rw [← List.dropLast_concat_getLast h]
    simp
theorem recov_small (ls : List (List UInt8)) (c : Int) : tot ((recov c ls).1.map tx) + (recov c ls).1.length ≤ (recov c ls).2 ∧ (recov c ls).2 ≤ tl ls := by
  induction ls generalizing c with
  | nil => simp [recov, tot, tl]
  | cons l r ih =>
    cases hg : good c l
    · rw [recov_no hg]; simp [tot]
    · rw [recov_yes hg]
      have h := ih (ck c (l.drop (fi l + 1)))
      have hl : (tx (l.drop (fi l + 1))).size ≤ l.length := by rw [tx_size, List.length_drop]; omega
      generalize recov (ck c (l.drop (fi l + 1))) r = q at *
      unfold tl at *
      simp only [List.map_cons, List.length_cons, List.sum_cons]
      rw [show tot (tx (l.drop (fi l + 1)) :: q.1.map tx) = (tx (l.drop (fi l + 1))).size + tot (q.1.map tx) by simp [tot]]
      omega

/-- What is recovered of a text. -/
def JR (s : ByteArray) : List (List UInt8) × Nat := if s.size ≤ 12000 then recov 0 (lnsOf s) else ([], 0)
theorem JR_small (s : ByteArray) : small ((JR s).1.map tx) ∧ (JR s).1.length ≤ 12001 := by
  unfold JR small
  split
  · rename_i h
    have h1 := recov_small (lnsOf s) 0
    have h2 := tl_dropLast (parts 10 [] s.data.toList)
    rw [tl_parts, bytes_len] at h2
    have h3 : tl (lnsOf s) ≤ s.size + 1 := by unfold lnsOf; simpa using h2
    rw [List.length_map]
    omega
  · simp [tot]

/-- What both hand back. -/
def RJ (s : ByteArray) (w : World) (e : Ending) (w' : World) : Prop :=
  ∃ (A : Option Addr) (c : Nat), e = .returned (.tuple #[.slice A (JR s).1.length c, .int .i64 ((JR s).2 : Int), .bool (decide (s.size ≤ 12000))]) ∧ w'.ownsRow w.heap.size 9 1 (.slice A (JR s).1.length c) (JR s).1.length (sv ((JR s).1.map tx)) ∧ Below w.heap.size w w'

set_option maxHeartbeats 2000000 in
theorem sRecover_any (s : ByteArray) (w : World) : Calls Tryd.prog 4 #[.string s] w (RJ s w) := by
  unfold RJ JR
  by_cases h : s.size ≤ 12000
  · rw [if_pos h, decide_eq_true h]
    have R := keep (l11Recover_any s w h)
    have hI : ¬ ((12000 : Int) < (s.size : Int)) := by omega
    generalize recov 0 (lnsOf s) = q at *
    go_enter Tryd.func4, Tryd.ntmps4
    go_wp2_with fail
    refine R.out.mono ?_
    rintro e w1 ⟨A, c, rfl, ho, hb⟩
    have HO := keep ho
    have HB := keep hb
    clear ho hb
    go_wp2_with fail
    go_ret3
    exact ⟨A, c, rfl, HO.out, HB.out⟩
  · rw [if_neg h, decide_eq_false h]
    have hI : ((12000 : Int) < (s.size : Int)) := by omega
    go_enter Tryd.func4, Tryd.ntmps4
    go_wp2_with fail
    go_ret3
    exact ⟨none, 0, rfl, World.ownsRow_nil _ _ _ _, Below.refl _ _⟩

set_option maxHeartbeats 2000000 in
theorem iRecover_any (s : ByteArray) (w : World) (htab : P10 w) : Calls Tryd.prog 5 #[.string s] w (RJ s w) := by
  unfold RJ JR
  have IS := keep (fun w => isScript_any s w)
  by_cases h : s.size ≤ 12000
  · rw [if_pos h, decide_eq_true h]
    have hD : decide ((s.size : Int) ≤ 12000) = true := decide_eq_true (by omega)
    rw [hD] at IS
    have R := recovered_any s.data.toList w (by rw [bytes_len]; exact h) htab
    rw [irun_lines _ 0 (parts_last 10 s.data.toList [] (by simp)), ← tx_of] at R
    have R := keep R
    change Kept (Calls _ _ _ _ fun e w' => ∃ (A : Option Addr) (c : Nat), e = .returned (.tuple #[.slice A (recov 0 (lnsOf s)).1.length c, .int .i64 ((recov 0 (lnsOf s)).2 : Int)]) ∧ w'.ownsRow w.heap.size 9 1 (.slice A (recov 0 (lnsOf s)).1.length c) (recov 0 (lnsOf s)).1.length (sv ((recov 0 (lnsOf s)).1.map tx)) ∧ Below w.heap.size w w') at R
    generalize recov 0 (lnsOf s) = q at *
    clear hD htab
    go_enter Tryd.func5, Tryd.ntmps5
    go_wp2_with fail
    refine (IS.out _).mono ?_
    rintro e w0 ⟨rfl, hw0⟩
    have hw0 := hw0.symm
    subst hw0
    go_wp2_with fail
    refine R.out.mono ?_
    rintro e w1 ⟨A, c, rfl, ho, hb⟩
    have HO := keep ho
    have HB := keep hb
    clear ho hb
    go_wp2_with fail
    go_ret3
    exact ⟨A, c, rfl, HO.out, HB.out⟩
  · rw [if_neg h, decide_eq_false h]
    have hD : decide ((s.size : Int) ≤ 12000) = false := decide_eq_false (by omega)
    rw [hD] at IS
    clear hD
    go_enter Tryd.func5, Tryd.ntmps5
    go_wp2_with fail
    refine (IS.out _).mono ?_
    rintro e w0 ⟨rfl, hw0⟩
    have hw0 := hw0.symm
    subst hw0
    go_wp2_with fail
    go_ret3
    exact ⟨none, 0, rfl, World.ownsRow_nil _ _ _ _, Below.refl _ _⟩

/-- The law's post. -/
def LawTrueR (w : World) (e : Ending) (w' : World) : Prop := e = .returned (.bool true) ∧ Below w.heap.size w w'

set_option maxHeartbeats 4000000 in
set_option maxRecDepth 20000 in
theorem lawRecover_any (s : ByteArray) (w : World) (htab : P10 w) :
    Calls Tryd.prog 3 #[.string s] w (LawTrueR w) := by
  unfold LawTrueR
  by_cases hbig : 1048576 < s.size
  · have hI : ((1048576 : Int) < (s.size : Int)) := by omega
    go_enter Tryd.func3, Tryd.ntmps3
    go_wp2_with fail
    go_ret
    exact ⟨rfl, Below.refl _ _⟩
  · have hI : ¬ ((1048576 : Int) < (s.size : Int)) := by omega
    have SR := keep (fun w => sRecover_any s w)
    have IR := keep (fun w h => iRecover_any s w h)
    have HT := keep htab
    obtain ⟨hsm, hlen⟩ := JR_small s
    have EQ := keep (fun A A2 c c2 w B B2 h1 h2 => eqStringS_any A A2 c c2 ((JR s).1.map tx) w B B2 h1 h2 hsm)
    have ML : ((JR s).1.map tx).length = (JR s).1.length := List.length_map _
    rw [ML] at EQ
    have HS := keep hsm
    unfold RJ at SR IR
    clear htab hsm ML
    generalize (JR s).2 = nb at *
    generalize decide (s.size ≤ 12000) = ok at *
    generalize hls : (JR s).1.map tx = ts at *
    generalize (JR s).1.length = m at *
    clear hls
    go_enter Tryd.func3, Tryd.ntmps3
    go_wp2_with fail
    refine (SR.out _).mono ?_
    rintro e w1 ⟨A0, c0, rfl, ho, hb⟩
    have R1 := keep (Rd.of_own ho)
    have B1 := keep hb
    clear ho hb SR
    go_wp2_with fail
    refine (IR.out _ (pow10_stays HT.out B1.out (Nat.le_refl _))).mono ?_
    rintro e w2 ⟨A2, c2, rfl, ho, hb⟩
    have G2 := keep ho
    have D2 := keep (Rd.of_own ho)
    have R2 := keep (R1.out.below hb)
    have B2 := keep (B1.out.trans (hb.mono B1.out.size))
    have L2 := keep hb.size
    clear ho hb R1
    go_wp2_with fail
    refine (EQ.out _ _ _ _ _ _ _ D2.out R2.out).mono ?_
    rintro e w3 ⟨rfl, n3, hw3⟩
    subst hw3
    go_wp2_with fail
    have G3 : Kept ((w2.drewN n3).ownsRow w1.heap.size 9 1 (.slice A2 m c2) m (sv ts)) := keep (owns_below G2.out (belowD _ _ _))
    have R3 : Kept (Rd (w2.drewN n3) w1.heap.size A0 ts) := keep (R2.out.below (belowD _ _ _))
    have B3 : Kept (Below w.heap.size w (w2.drewN n3)) := keep (B2.out.trans (belowD _ _ _))
    have L3 : Kept (w1.heap.size ≤ (w2.drewN n3).heap.size) := L2
    clear G2 D2 R2 B2 L2
    generalize w2.drewN n3 = w3 at *
    refine (markStringS_any A2 m c2 w1.heap.size (sv ts) w3 (by omega) G3.out L3.out).mono ?_
    rintro e w4 ⟨rfl, hm4, hb4⟩
    have G4 := keep hm4
    have R4 := keep (R3.out.below hb4)
    have B4 := keep (B3.out.trans (hb4.mono B1.out.size))
    have L4 := keep (Nat.le_trans L3.out hb4.size)
    clear hm4 hb4 G3 R3 B3 L3
    go_wp2_with fail
    refine (heldStringS_any A2 m c2 w1.heap.size w4 (by omega) G4.out).mono ?_
    rintro e w5 ⟨rfl, hb5⟩
    have G5 := keep (owns_below G4.out hb5)
    have R5 := keep (R4.out.below (hb5.mono L4.out))
    have B5 := keep (B4.out.trans (hb5.mono B4.out.size))
    have L5 := keep (Nat.le_trans L4.out hb5.size)
    clear hb5 G4 R4 B4 L4
    have hq : ¬ (((m + 1 : Nat) : Int) < 0) := by omega
    go_wp2_with fail
    refine (IR.out _ (pow10_stays HT.out B5.out (Nat.le_refl _))).mono ?_
    rintro e w6 ⟨A6, c6, rfl, ho, hb⟩
    have D6 := keep (Rd.of_own ho)
    have G6 := keep (owns_below G5.out hb)
    have R6 := keep (R5.out.below (hb.mono L5.out))
    have B6 := keep (B5.out.trans (hb.mono B5.out.size))
    clear ho hb G5 R5 B5 L5 IR
    go_wp2_with fail
    refine (EQ.out _ _ _ _ _ _ _ D6.out R6.out).mono ?_
    rintro e w7 ⟨rfl, n7, hw7⟩
    subst hw7
    have G7 : Kept ((w6.drewN n7).ownsRow w1.heap.size 9 1 (.slice A2 m c2) m (sv (marksL m))) := keep (owns_below G6.out (belowD _ _ _))
    have B7 : Kept (Below w.heap.size w (w6.drewN n7)) := keep (B6.out.trans (belowD _ _ _))
    clear G6 R6 B6 D6 EQ
    generalize w6.drewN n7 = w8 at *
    go_wp2_with fail
    refine (heldStringS_any A2 m c2 w1.heap.size w8 (by omega) G7.out).mono ?_
    rintro e w9 ⟨rfl, hb9⟩
    have B9 := keep (B7.out.trans (hb9.mono B7.out.size))
    clear hb9 G7 B7
    go_wp2_with fail
    go_ret
    exact ⟨rfl, B9.out⟩
end Go.Proofs.YtlkilakjjfaamaaDoor
