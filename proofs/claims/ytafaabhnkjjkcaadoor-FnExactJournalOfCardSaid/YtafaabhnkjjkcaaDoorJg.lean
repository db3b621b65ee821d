/- The law FnExactJournalOf by its walk: the program's JournalOf returns what the reference's returns. The table of powers of ten is a premise. -/
import Derived.Test.YtafaabhnkjjkcaaDoorJf
namespace Go.Proofs.YtafaabhnkjjkcaaDoor
open Go.RowKit Go.Sort

/-- The law's post. -/
def LawTrue (w : World) (e : Ending) (w' : World) : Prop := e = .returned (.bool true) ∧ Below w.heap.size w w'

set_option maxHeartbeats 4000000 in
set_option maxRecDepth 20000 in
theorem lawJournalOf_any (A : Option Addr) (c : Nat) (ss : List ByteArray) (w : World) (hr : Rd w w.heap.size A ss) (hm : ss.length ≤ maxLen) (hs : ∀ s ∈ ss, s.size ≤ maxLen) (htab : P10 w) :
    Calls Tryd.prog 3 #[.slice A ss.length c] w (LawTrue w) := by
  have HZ := keep (szStringS_any A c ss w _ hr hm hs)
  have HR := keep hr
  have HT := keep htab
  clear hr hm hs htab
  go_enter Tryd.func3, Tryd.ntmps3
  go_wp2_with fail
  refine HZ.out.mono ?_
  rintro e w' ⟨r, rfl, hsm, rfl⟩
  by_cases hneg : r < 0
  · go_wp2_with fail
    go_ret
    exact ⟨rfl, Below.refl _ _⟩
  · have HS := keep (hsm (by omega))
    have hr0 : 0 ≤ r := by omega
    clear hsm
    go_wp2_with fail
    refine (toStringS_any A c ss w HR.out HS.out).mono ?_
    rintro e w1 ⟨g1, c1, rfl, o1, b1⟩
    have HC1 := keep (sJournalOf_any _ c1 ss w1 (Rd.of_own o1) HS.out)
    have O1 := keep o1
    have B1 := keep b1
    clear o1 b1
    have hjr : goodB ss = true ∨ goodB ss = false := by cases goodB ss <;> simp
    rcases hjr with hj | hj
    all_goals
      first
      | (have hje := jres_yes hj)
      | (have hje := jres_no hj)
      unfold JOut at HC1
      rw [hje] at HC1
      have HJE := keep hje
      clear hj hje
      generalize (⟨(jst ss).2.toArray⟩ : ByteArray) = J at *
      go_wp2_with fail
      refine HC1.out.mono ?_
      rintro e w2 ⟨rfl, b2⟩
      have B2 := keep (B1.out.trans (b2.mono B1.out.size))
      have O2 := keep (owns_below O1.out b2)
      clear b2
      go_wp2_with fail
      refine (toStringS_any A c ss w2 ((HR.out.below B2.out).more B2.out.size) HS.out).mono ?_
      rintro e w3 ⟨g3, c3, rfl, o3, b3⟩
      have B3 := keep (B2.out.trans (b3.mono B2.out.size))
      have O3 := keep o3
      clear o3 b3
      have HC3 := keep (JournalOf_any _ c3 ss w3 (Rd.of_own O3.out) HS.out (pow10_stays HT.out B3.out (Nat.le_refl _)))
      unfold JOut at HC3
      rw [HJE.out] at HC3
      go_wp2_with fail
      refine HC3.out.mono ?_
      rintro e w4 ⟨rfl, b4⟩
      have B4 := keep (B3.out.trans (b4.mono B3.out.size))
      have O4 := keep (owns_below O3.out b4)
      clear b4
      go_wp2_with fail
      refine (toStringS_any A c ss w4 ((HR.out.below B4.out).more B4.out.size) HS.out).mono ?_
      rintro e w5 ⟨g5, c5, rfl, o5, b5⟩
      have B5 := keep (B4.out.trans (b5.mono B4.out.size))
      have O5 := keep (owns_below O4.out b5)
      have O6 := keep o5
      clear o5 b5
      go_wp2_with fail
      refine (eqStringS_any _ _ c3 c5 ss w5 _ _ (Rd.of_own O5.out) (Rd.of_own O6.out) HS.out).mono ?_
      rintro e w6 ⟨rfl, n, rfl⟩
      go_wp2_with fail
      go_ret
      exact ⟨rfl, by have := B5.out; exact ⟨this.os, this.tape, this.output, this.size, this.block⟩⟩
end Go.Proofs.YtafaabhnkjjkcaaDoor
