/- The law FnExactReadParticle: the program's ReadParticle returns what the reference's returns, for every text. Conditions: what the library's variables hold. -/
import Derived.Test.YtfedobhjkfmogaaDoorUn
import Derived.Test.YtfedobhjkfmogaaDoorEqP
namespace Go.Proofs.YtfedobhjkfmogaaDoor
open Go.RowKit Go.Sort
set_option linter.unusedSimpArgs false

theorem validP_finP {a b c d q m : Nat} (h : validP a b c d q m = true) : finP a b c d q m = true := by
  unfold validP at h
  unfold finP
  rw [Bool.and_eq_true] at h
  exact h.1
theorem finP_zero : finP 0 0 0 0 0 0 = true := by decide +kernel

set_option maxHeartbeats 1000000 in
theorem lawRead_mid (l : List UInt8) (w : World) (hl : l.length ≤ 1048576) (hmx : MX w) (her : ER w) (htz : TZ w) (h0 : 0 < w.heap.size) :
    Calls Tryd.prog 3 #[.string (tx l)] w fun e w' => e = .returned (.bool true) ∧ Below w.heap.size w w' := by
  have H1 := keep (fun w => sReadParticle_any l w (by omega))
  have H2 := keep (fun w h1 h2 h3 h4 => ReadParticle_any l w (by omega) h1 h2 h3 h4)
  obtain ⟨a, b, c, d, q, m, ok, hv, hf⟩ : ∃ a b c d x y ok, rpOut (readP l) = #[.agg #[.complex .f32 a b, .complex .f32 c d, .float .f32 x, .float .f32 y], .bool ok] ∧ finP a b c d x y = true := by
    cases h : readP l with
    | none => exact ⟨0, 0, 0, 0, 0, 0, false, rfl, finP_zero⟩
    | some v =>
      obtain ⟨a, b, c, d, x, y⟩ := v
      exact ⟨_, _, _, _, _, _, true, rfl, validP_finP (readP_ok h)⟩
  rw [hv] at H1 H2
  have H3 := keep (fun w => eqParticle_self a b c d q m w hf)
  have TS := tx_size l
  have ht : decide ((1048576 : Int) < ((tx l).size : Int)) = false := by simp; omega
  have HMX := keep hmx
  have HER := keep her
  have HTZ := keep htz
  unfold pCells at H3
  clear hmx her htz hv hf hl TS
  go_enter Tryd.func3, Tryd.ntmps3
  go_wp2_with fail
  refine (H1.out _).mono ?_
  rintro e w1 ⟨rfl, hb1⟩
  have B1 := keep ((hb1.alloc hb1.size (.cells #[.complex .f32 a b, .complex .f32 c d, .float .f32 q, .float .f32 m] 25)))
  have hz1 := hb1.size
  have HB1 := keep hb1
  clear hb1
  go_wp2_with fail
  refine (H2.out _ (HMX.out.below B1.out (Nat.le_refl _) h0) (HER.out.below B1.out (Nat.le_refl _)) (HTZ.out.below B1.out (Nat.le_refl _)) (by rw [World.size_alloc]; omega)).mono ?_
  rintro e w2 ⟨rfl, hb2⟩
  have q1 := (Has.made w1 25 #[.complex .f32 a b, .complex .f32 c d, .float .f32 q, .float .f32 m]).after hb2
  have qc := q1.cells
  have qf := q1.free
  have qz := q1.in_heap
  have Q1 := keep q1
  clear q1
  go_wp2_with fail
  refine (H3.out _).mono ?_
  rintro e w3 ⟨rfl, hb3⟩
  go_wp2_with fail
  go_ret
  refine ⟨rfl, ?_⟩
  have hb1 := HB1.out
  have e1 := hb1.size
  have g1 := (hb1.alloc e1 (.cells #[.complex .f32 a b, .complex .f32 c d, .float .f32 q, .float .f32 m] 25)).trans (hb2.mono (by simp; omega))
  have e2 := g1.size
  exact (g1.alloc e2 (.cells #[.complex .f32 a b, .complex .f32 c d, .float .f32 q, .float .f32 m] 25)).trans (hb3.mono (by simp; omega))

set_option maxHeartbeats 1000000 in
theorem lawRead_long (s : ByteArray) (w : World) (hl : 1048576 < s.size) :
    Calls Tryd.prog 3 #[.string s] w fun e w' => e = .returned (.bool true) ∧ Below w.heap.size w w' := by
  have ht : decide ((1048576 : Int) < (s.size : Int)) = true := by simp; omega
  clear hl
  go_enter Tryd.func3, Tryd.ntmps3
  go_wp2_with fail
  go_ret
  exact ⟨rfl, Below.refl _ _⟩

theorem lawRead_any (s : ByteArray) (w : World) (hmx : MX w) (her : ER w) (htz : TZ w) (h0 : 0 < w.heap.size) :
    Calls Tryd.prog 3 #[.string s] w fun e w' => e = .returned (.bool true) ∧ Below w.heap.size w w' := by
  rcases Nat.lt_or_ge 1048576 s.size with hl | hl
  · exact lawRead_long s w hl
  · have h := lawRead_mid s.data.toList w (by rw [bytes_len]; exact hl) hmx her htz h0
    rw [← tx_of] at h
    exact h
end Go.Proofs.YtfedobhjkfmogaaDoor
