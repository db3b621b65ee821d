/- Contract: the program's ParticleOf. -/
import Derived.Test.YtafaabhnkjjkcaaPart
import Derived.Test.YtafaabhnkjjkcaaWords
namespace Go.Proofs.Ytafaabhnkjjkcaa
open Go.RowKit

theorem readNumber_of (t : ByteArray) (ht : t.size = 4) (w : World) : Calls Try.prog 37 #[.string t] w fun e w' => e = .returned (.float .f32 (numAt t 0)) ∧ Below w.heap.size w w' := by
  obtain ⟨⟨l⟩⟩ := t
  have hl : l.length = 4 := by simpa [ByteArray.size] using ht
  match l, hl with
  | [b0, b1, b2, b3], _ => exact readNumber_any b0 b1 b2 b3 w

/-- The six numbers, as far as they are read. -/
def six (s : ByteArray) (k : Nat) : Array Value := ((List.range 6).map fun j => Value.float .f32 (if j < k then numAt s (4 * j) else 0)).toArray

theorem six_set (s : ByteArray) (k : Nat) (hk : k < 6) : (six s k).setIfInBounds k (.float .f32 (numAt s (4 * k))) = six s (k + 1) := by
  have h : k = 0 ∨ k = 1 ∨ k = 2 ∨ k = 3 ∨ k = 4 ∨ k = 5 := by omega
  rcases h with rfl | rfl | rfl | rfl | rfl | rfl <;> rfl
theorem six_get (s : ByteArray) (k : Nat) (hk : k < 6) : (six s k)[k]? = some (.float .f32 0) := by
  have h : k = 0 ∨ k = 1 ∨ k = 2 ∨ k = 3 ∨ k = 4 ∨ k = 5 := by omega
  rcases h with rfl | rfl | rfl | rfl | rfl | rfl <;> rfl

theorem getD_extract (s : ByteArray) (a b j : Nat) (hb : b ≤ s.size) (hj : a + j < b) : (s.extract a b).data.getD j 0 = s.data.getD (a + j) 0 := by
  have hb' : b ≤ s.data.size := hb
  have e : (s.extract a b).data = s.data.extract a b := by simp
  rw [e]
  have h1 : (s.data.extract a b)[j]? = s.data[a + j]? := by
    rw [Array.getElem?_extract]
    rw [if_pos (by omega)]
  rw [Array.getD_eq_getD_getElem?, Array.getD_eq_getD_getElem?, h1]

theorem numAt_extract (s : ByteArray) (a b n : Nat) (hb : b ≤ s.size) (h : a + n + 4 ≤ b) : numAt (s.extract a b) n = numAt s (a + n) := by
  unfold numAt
  rw [getD_extract s a b n hb (by omega), getD_extract s a b (n + 1) hb (by omega), getD_extract s a b (n + 2) hb (by omega), getD_extract s a b (n + 3) hb (by omega)]
  rfl

theorem extract_size (s : ByteArray) (a b : Nat) (hb : b ≤ s.size) : (s.extract a b).size = b - a := by
  rw [ByteArray.size_extract]; omega

/-- What ParticleOf hands back of 24 bytes. -/
def partOf (s : ByteArray) : Array Value := if okAt s 0 then #[.agg (pAt s 0), .bool true] else #[.agg (pCells 0 0 0 0 0 0), .bool false]

set_option maxHeartbeats 1000000 in
theorem ParticleOf_24 (s : ByteArray) (w : World) (hs : s.size = 24) :
    Calls Try.prog 10 #[.string s] w fun e w' => e = .returned (.tuple (partOf s)) ∧ Below w.heap.size w w' := by
  have hs1 : ((s.size : Int) != 24) = false := by rw [hs]; rfl
  have hs2 : (24 : Int) ≤ s.size := by omega
  have hs3 : (s.size : Int) ≤ 24 := by omega
  clear hs
  go_enter Try.func10, Try.ntmps10
  go_wp2_with fail
  go_loopw [11] (fun i wr => ∃ k : Nat, k ≤ 6 ∧ i = .int .i64 k ∧ Below w.heap.size w wr ∧ Has wr w.heap.size 25 (pCells 0 0 0 0 0 0) ∧ Has wr (w.heap.size + 1) 61 (six s k)) (fun i _ => 6 - (intOf i).toNat)
  case atStart => exact ⟨0, by omega, rfl, by go_grown, (Has.made _ _ _).beside _, by have h := Has.made (w.alloc (.cells (pCells 0 0 0 0 0 0) 25)) 61 (six s 0); rw [World.size_alloc] at h; exact h⟩
  case round =>
    obtain ⟨k, hk, rfl, hb, h1, h2⟩ := hrel
    by_cases hlt : k < 6
    · have hl4 := extract_size s (4 * k) (4 * k + 4) (by omega)
      have hnum := keep (numAt_extract s (4 * k) (4 * k + 4) 0 (by omega) (by omega))
      have Hc := keep (fun w => readNumber_of (s.extract (4 * k) (4 * k + 4)) (by omega) w)
      clear hl4
      have Hsix := keep (six_get s k hlt)
      have Hset := keep (six_set s k hlt)
      go_wp2_with (go_at_call 37; refine (Hc.out _).mono ?_; rintro e w' ⟨rfl, hb2⟩; rw [hnum.out]; have g2 := h2.after hb2; have ck := (g2.cells k).trans Hsix.out; have fk := g2.free k)
      go_roundw
      case rel => exact ⟨k + 1, by omega, by go_num, (hb.trans (hb2.mono hb.size)).setCell (by simp) _, ((h1.after hb2).elsewhere (by simp) _), by rw [← Hset.out]; exact g2.written k _⟩
      case measure => simp [intOf]; omega
    · obtain rfl : k = 6 := by omega
      have e6 : six s 6 = #[.float .f32 (numAt s 0), .float .f32 (numAt s 4), .float .f32 (numAt s 8), .float .f32 (numAt s 12), .float .f32 (numAt s 16), .float .f32 (numAt s 20)] := rfl
      rw [e6] at h2
      clear e6
      unfold pCells at h1
      have c2 := h2.cells
      have hv := ValidParticle_any (numAt s 0) (numAt s 4) (numAt s 8) (numAt s 12) (numAt s 16) (numAt s 20)
      have hok0 : okAt s 0 = validP (numAt s 0) (numAt s 4) (numAt s 8) (numAt s 12) (numAt s 16) (numAt s 20) := rfl
      cases hok : validP (numAt s 0) (numAt s 4) (numAt s 8) (numAt s 12) (numAt s 16) (numAt s 20)
      all_goals
        rw [hok] at hv hok0
        have Hv := keep hv
        have Hok := keep hok0
        clear hv hok hok0
        have p0 := (Has.made wr 25 (pCells (numAt s 0) (numAt s 4) (numAt s 8) (numAt s 12) (numAt s 16) (numAt s 20)))
        unfold pCells at p0
        have q0 := h1.beside (.cells #[.complex .f32 (numAt s 0) (numAt s 4), .complex .f32 (numAt s 8) (numAt s 12), .float .f32 (numAt s 16), .float .f32 (numAt s 20)] 25)
        go_wp2_with (go_at_call 38; refine (Hv.out _).mono ?_; rintro e w' ⟨rfl, hb3⟩; have p1 := p0.after hb3; have pc := p1.cells; have q1 := q0.after hb3; have qc := q1.cells; have qf := q1.free)
        refine bodyPost_ret (by simp [results, Try.results10, go_sem, qc]; rfl) rfl ⟨by unfold partOf; rw [Hok.out]; rfl, ?_⟩
        have hb4 := (hb.alloc hb.size (.cells #[.complex .f32 (numAt s 0) (numAt s 4), .complex .f32 (numAt s 8) (numAt s 12), .float .f32 (numAt s 16), .float .f32 (numAt s 20)] 25)).trans (hb3.mono (by simp; have := hb.size; omega))
        exact (((hb4.setCell (Nat.le_refl _) _).setCell (Nat.le_refl _) _).setCell (Nat.le_refl _) _).setCell (Nat.le_refl _) _
end Go.Proofs.Ytafaabhnkjjkcaa
