/- The law FnExactParticleOf: the program's ParticleOf returns what the reference's returns, for every text. No condition. -/
import Derived.Test.YtafaabhnkjjkcaaLawPof
namespace Go.Proofs.Ytafaabhnkjjkcaa
open Go.RowKit

theorem validP_finP {a b c d q m : Nat} (h : validP a b c d q m = true) : finP a b c d q m = true := by
  unfold validP at h
  unfold finP
  rw [Bool.and_eq_true] at h
  exact h.1

set_option maxHeartbeats 1000000 in
/-- The law, where both functions hand back one particle. -/
theorem lawPof_mid (s : ByteArray) (w : World) (a b c d q m : Nat) (ok : Bool) (hf : finP a b c d q m = true) (hl : s.size ≤ 1048576)
    (h1 : ∀ w, Calls Try.prog 9 #[.string s] w fun e w' => e = .returned (.tuple #[.agg (pCells a b c d q m), .bool ok]) ∧ Below w.heap.size w w')
    (h2 : ∀ w, Calls Try.prog 10 #[.string s] w fun e w' => e = .returned (.tuple #[.agg (pCells a b c d q m), .bool ok]) ∧ Below w.heap.size w w') :
    Calls Try.prog 3 #[.string s] w fun e w' => e = .returned (.bool true) ∧ Below w.heap.size w w' := by
  have H3 := keep (fun w => eqParticle_self a b c d q m w hf)
  have ht : decide ((1048576 : Int) < (s.size : Int)) = false := by simp; omega
  unfold pCells at *
  have H1 := keep h1
  have H2 := keep h2
  clear h1 h2 hl hf
  go_enter Try.func3, Try.ntmps3
  go_wp2_with fail
  refine (H1.out _).mono ?_
  rintro e w1 ⟨rfl, hb1⟩
  go_wp2_with fail
  refine (H2.out _).mono ?_
  rintro e w2 ⟨rfl, hb2⟩
  have q1 := (Has.made w1 25 #[.complex .f32 a b, .complex .f32 c d, .float .f32 q, .float .f32 m]).after hb2
  have qc := q1.cells
  have qf := q1.free
  have qz := q1.in_heap
  have Q1 := keep q1
  clear q1
  go_wp2_with fail
  refine (H3.out _).mono ?_
  rintro e w3 ⟨rfl, hb3⟩
  go_wp2_with fail
  go_ret
  refine ⟨rfl, ?_⟩
  have e1 := hb1.size
  have g1 := (hb1.alloc e1 (.cells #[.complex .f32 a b, .complex .f32 c d, .float .f32 q, .float .f32 m] 25)).trans (hb2.mono (by simp; omega))
  have e2 := g1.size
  exact (g1.alloc e2 (.cells #[.complex .f32 a b, .complex .f32 c d, .float .f32 q, .float .f32 m] 25)).trans (hb3.mono (by simp; omega))

set_option maxHeartbeats 1000000 in
theorem lawPof_long (s : ByteArray) (w : World) (hl : 1048576 < s.size) :
    Calls Try.prog 3 #[.string s] w fun e w' => e = .returned (.bool true) ∧ Below w.heap.size w w' := by
  have ht : decide ((1048576 : Int) < (s.size : Int)) = true := by simp; omega
  clear hl
  go_enter Try.func3, Try.ntmps3
  go_wp2_with fail
  go_ret
  exact ⟨rfl, Below.refl _ _⟩

theorem finP_zero : finP 0 0 0 0 0 0 = true := by decide +kernel

theorem lawPof_any (s : ByteArray) (w : World) :
    Calls Try.prog 3 #[.string s] w fun e w' => e = .returned (.bool true) ∧ Below w.heap.size w w' := by
  rcases Nat.lt_or_ge 1048576 s.size with hl | hl
  · exact lawPof_long s w hl
  · by_cases hs : s.size = 24
    · cases hok : okAt s 0
      · have e : partOf s = #[.agg (pCells 0 0 0 0 0 0), .bool false] := by unfold partOf; rw [hok]; rfl
        exact lawPof_mid s w 0 0 0 0 0 0 false finP_zero hl (fun w => by have h := sParticleOf_24 s w hs; rw [e] at h; exact h) (fun w => by have h := ParticleOf_24 s w hs; rw [e] at h; exact h)
      · have e : partOf s = #[.agg (pAt s 0), .bool true] := by unfold partOf; rw [hok]; rfl
        exact lawPof_mid s w _ _ _ _ _ _ true (validP_finP hok) hl (fun w => by have h := sParticleOf_24 s w hs; rw [e] at h; exact h) (fun w => by have h := ParticleOf_24 s w hs; rw [e] at h; exact h)
    · exact lawPof_mid s w 0 0 0 0 0 0 false finP_zero hl (fun w => sParticleOf_else s w hs) (fun w => ParticleOf_else s w hs)
end Go.Proofs.Ytafaabhnkjjkcaa
