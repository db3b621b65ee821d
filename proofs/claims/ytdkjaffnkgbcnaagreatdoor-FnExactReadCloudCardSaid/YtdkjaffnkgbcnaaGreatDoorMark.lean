/- Contracts of the laws' own helpers over slices of particles: marks are laid, and are held. -/
import Derived.Test.YtdkjaffnkgbcnaaGreatDoorEqP
import Derived.Laws.OwnMore
import Derived.Test.YtdkjaffnkgbcnaaGreatDoorWords
import Derived.Test.YtdkjaffnkgbcnaaGreatDoorMarkBits
namespace Go.Proofs.YtdkjaffnkgbcnaaGreatDoor
open Go.RowKit

/-- A particle's numbers, as bits. -/
structure PD where
  a : Nat
  b : Nat
  c : Nat
  d : Nat
  q : Nat
  m : Nat

def PD.cells (p : PD) : List Value := [.complex .f32 p.a p.b, .complex .f32 p.c p.d, .float .f32 p.q, .float .f32 p.m]
def psCells (ps : List PD) : List Value := ps.flatMap PD.cells

theorem psCells_length (ps : List PD) : (psCells ps).length = ps.length * 4 := by
  induction ps with
  | nil => rfl
  | cons p ps ih => simp only [psCells, List.flatMap_cons, List.length_append, List.length_cons] at *; rw [ih]; simp [PD.cells]; omega

theorem psCells_at (ps : List PD) : ∀ (i : Nat) (h : i < ps.length) (j : Nat), j < 4 → (psCells ps)[i * 4 + j]? = ps[i].cells[j]? := by
  induction ps with
  | nil => intro i h; cases h
  | cons p ps ih =>
    intro i h j hj
    simp only [psCells, List.flatMap_cons]
    have hp : p.cells.length = 4 := rfl
    cases i with
    | zero =>
      rw [List.getElem?_append_left (by omega)]
      simp
    | succ i =>
      rw [List.getElem?_append_right (by omega), hp]
      have h' : i < ps.length := by simpa using h
      rw [show (i + 1) * 4 + j - 4 = i * 4 + j from by omega]
      exact ih i h' j hj

def markPD (k : Nat) : PD := ⟨mk32 k, one32, mk32 (k + 1), one32, mk32 (k + 2), mk32 (k + 3)⟩
def marksFrom (k : Nat) : Nat → List PD
  | 0 => []
  | n + 1 => marksFrom k n ++ [markPD (k + 4 * n)]

theorem grownBy_set4 {w wr : World} {g : Nat} (h : w.grownBy wr (some g)) (a b c d : Nat) (u v x y : Value) :
    w.grownBy ((((wr.setCell ⟨g, a, none⟩ u).setCell ⟨g, b, none⟩ v).setCell ⟨g, c, none⟩ x).setCell ⟨g, d, none⟩ y) (some g) := by
  refine ⟨h.os, h.tape, h.output, by simpa [World.setCell] using h.size, fun k hk hne => ?_⟩
  have hkg : k ≠ g := fun e => hne (by rw [e])
  rw [Below.heap_setCell _ _ _ _ (by exact hkg), Below.heap_setCell _ _ _ _ (by exact hkg), Below.heap_setCell _ _ _ _ (by exact hkg), Below.heap_setCell _ _ _ _ (by exact hkg)]
  exact h.block k hk hne

theorem take_set4 (cur : Array Value) (m : Nat) (a b c d : Value) (h : m + 4 ≤ cur.size) (m' : Nat) (hm : m' = m + 4) :
    ((((cur.setIfInBounds m a).setIfInBounds (m + 1) b).setIfInBounds (m + 2) c).setIfInBounds (m + 3) d).toList.take m' = cur.toList.take m ++ [a, b, c, d] := by
  subst hm
  obtain ⟨l⟩ := cur
  have hl : m + 4 ≤ l.length := by simpa using h
  simp only [List.setIfInBounds_toArray]
  have hsplit : l = l.take m ++ l.drop m := (List.take_append_drop m l).symm
  have hd : (l.drop m).length = l.length - m := List.length_drop
  have ht : (l.take m).length = m := by rw [List.length_take]; omega
  generalize l.take m = pre at *
  generalize l.drop m = post at *
  subst hsplit
  match post, hd with
  | x0 :: x1 :: x2 :: x3 :: r, _ =>
    subst ht
    simp [List.take_append, List.take_of_length_le (show pre.length ≤ pre.length + 4 by omega)]
  | [], hd => simp at hd hl; omega
  | [_], hd => simp at hd hl; omega
  | [_, _], hd => simp at hd hl; omega
  | [_, _, _], hd => simp at hd hl; omega

theorem run_mark (i : Int) (n : Nat) (w : World) (hi : i = n) (hn : n < 1600) :
    (convert 70 41 (.complex .f64 (floatOfInt .f64 i) 4607182418800017408)).run Tryz.prog w = .ok (.complex .f32 (mk32 n) one32) w := by
  subst hi
  exact run_convert_complex w 70 41 .f64 .f32 _ _ _ _ (by rw [Tryz.underlying70]; rfl) Tryz.underlying41 (by unfold cConvBits; rw [show floatToFloatBits .f64 (floatOfInt .f64 n) .f32 = some (mk32 n) from (mark_bits n hn).1, one_bits.1]; rfl)

set_option maxHeartbeats 1000000 in
set_option maxRecDepth 20000 in
theorem markParticleS_any (B : Nat) (v : Value) (ps : List PD) (k : Nat) (w : World) (hown : w.ownsRow B 43 4 v ps.length (psCells ps)) (hk : k + 4 * ps.length < 1590) :
    Calls Tryz.prog 18 #[v, .int .i64 k] w fun e w' => e = .returned (.int .i64 (k + 4 * ps.length : Nat)) ∧ w'.ownsRow B 43 4 v ps.length (psCells (marksFrom k ps.length)) ∧ w.grownBy w' v.ownBlock := by
  obtain ⟨hl, hv⟩ := hown
  rcases hv with ⟨rfl, hn⟩ | ⟨g, cap, cur, rfl, hB, hg, hnc, hcm, hcs, htake⟩
  · have hp : ps = [] := List.eq_nil_of_length_eq_zero hn
    subst hp
    go_enter Tryz.func18, Tryz.ntmps18
    go_wp2_with fail
    refine wp_loop_rounds 1 ?_
    rw [rounds_succ]
    go_wp2_with fail
    go_ret
    exact ⟨rfl, World.ownsRow_nil _ _ _ _, World.grownBy.refl _ _⟩
  · go_enter Tryz.func18, Tryz.ntmps18
    go_wp2_with fail
    go_loopw [1, 5] (fun r s wr => ∃ (i n : Nat) (cur' : Array Value), i ≤ ps.length ∧ n < 1590 ∧ r = .int .i64 n ∧ s = .int .i64 i ∧ Kept (n = k + 4 * i) ∧ Has wr g 43 cur' ∧ Kept (cur'.size = cap * 4) ∧ Kept (cur'.toList.take (i * 4) = psCells (marksFrom k i)) ∧ w.grownBy wr (some g)) (fun _ s _ => ps.length - (intOf s).toNat)
    case atStart => exact ⟨0, k, cur, Nat.zero_le _, by omega, rfl, rfl, keep rfl, hg, keep hcs, keep (by simp [marksFrom, psCells]), World.grownBy.refl _ _⟩
    case round =>
      obtain ⟨i, n, cur', hi, hn, rfl, rfl, hni, hh, hsz, htk, hgr⟩ := hrel
      have H0 := keep hh
      by_cases hlt : i < ps.length
      · have f0 := fun w => run_mark n n w rfl (by omega)
        have f1 := fun w => run_mark ((n : Int) + 1) (n + 1) w (by omega) (by omega)
        have hcell : ∀ j, j < 4 → ∃ x, wr.cell? ⟨g, i * 4 + j, none⟩ = some x := fun j hj => by
          have hz := hsz.out
          have hb : i * 4 + j < cur'.size := by omega
          exact ⟨cur'[i * 4 + j], (hh.cells _).trans (Array.getElem?_eq_getElem hb)⟩
        obtain ⟨x0, c0⟩ := hcell 0 (by omega)
        obtain ⟨x1, c1⟩ := hcell 1 (by omega)
        obtain ⟨x2, c2⟩ := hcell 2 (by omega)
        obtain ⟨x3, c3⟩ := hcell 3 (by omega)
        have cf := hh.free
        have H := keep hh
        clear hcell hh
        rw [Nat.add_zero] at c0
        go_wp2_with fail
        have hz := hsz.out
        have hlen : (i + 1) * 4 ≤ cur'.size := by omega
        refine ⟨⟨i + 1, n + 4, _, by omega, by have h := hni.out; omega, by go_num, by go_num, keep (by have h := hni.out; omega), (((H.out.written _ _).written _ _).written _ _).written _ _, keep (by simp [hz]), keep ?_, grownBy_set4 hgr _ _ _ _ _ _ _ _⟩, by simp [intOf]; omega⟩
        rw [take_set4 cur' (i * 4) _ _ _ _ (by omega) _ (by omega), htk.out]
        show _ = (marksFrom k i ++ [markPD (k + 4 * i)]).flatMap PD.cells
        rw [List.flatMap_append, ← hni.out]
        rfl
      · obtain rfl : i = ps.length := by omega
        go_wp2_with fail
        go_ret
        refine ⟨by rw [hni.out]; rfl, ⟨?_, Or.inr ⟨g, cap, cur', rfl, hB, H0.out, hnc, hcm, hsz.out, htk.out⟩⟩, hgr⟩
        rw [← htk.out, List.length_take]
        have hz := hsz.out
        simp
        omega

theorem marksFrom_length (k n : Nat) : (marksFrom k n).length = n := by
  induction n with
  | zero => rfl
  | succ n ih => simp [marksFrom, ih]
theorem marksFrom_at (k n i : Nat) (h : i < n) : (marksFrom k n)[i]? = some (markPD (k + 4 * i)) := by
  induction n with
  | zero => omega
  | succ n ih =>
    unfold marksFrom
    by_cases hi : i < n
    · rw [List.getElem?_append_left (by rw [marksFrom_length]; exact hi)]; exact ih hi
    · obtain rfl : i = n := by omega
      rw [List.getElem?_append_right (by rw [marksFrom_length]; omega), marksFrom_length]
      simp

theorem owns_cell {w : World} {B e g n cap : Nat} {xs : List Value} (h : w.ownsRow B e 4 (.slice (some ⟨g, 0, none⟩) n cap) n xs) {j : Nat} {u : Value} (hu : xs[j]? = some u) : w.cell? ⟨g, j, none⟩ = some u := by
  have h2 := h.cells (g := g) rfl j u hu
  rwa [Addr.add_lit, Nat.zero_add] at h2

set_option maxHeartbeats 1000000 in
set_option maxRecDepth 20000 in
theorem heldParticleS_any (B : Nat) (v : Value) (N k : Nat) (w : World) (hown : w.ownsRow B 43 4 v N (psCells (marksFrom k N))) (hk : k + 4 * N < 1590) :
    Calls Tryz.prog 19 #[v, .int .i64 k] w fun e w' => e = .returned (.int .i64 (k + 4 * N : Nat)) ∧ w' = w := by
  have hown' := hown
  obtain ⟨hl, hv⟩ := hown
  rcases hv with ⟨rfl, hn⟩ | ⟨g, cap, cur, rfl, hB, hg, hnc, hcm, hcs, htake⟩
  · subst hn
    go_enter Tryz.func19, Tryz.ntmps19
    go_wp2_with fail
    refine wp_loop_rounds 1 ?_
    rw [rounds_succ]
    go_wp2_with fail
    go_ret
    exact ⟨rfl, rfl⟩
  · have H := keep hown'
    clear hl hB hg hcs htake hown'
    go_enter Tryz.func19, Tryz.ntmps19
    go_wp2_with fail
    go_loop [1, 5] (fun r s => ∃ i n : Nat, i ≤ N ∧ n < 1590 ∧ r = .int .i64 n ∧ s = .int .i64 i ∧ Kept (n = k + 4 * i)) (fun _ s => N - (intOf s).toNat)
    case atStart => exact ⟨0, k, Nat.zero_le _, by omega, rfl, rfl, keep rfl⟩
    case round =>
      obtain ⟨i, n, hi, hn, rfl, rfl, hni⟩ := hrel
      by_cases hlt : i < N
      · have f0 := fun w => run_mark n n w rfl (by omega)
        have f1 := fun w => run_mark ((n : Int) + 1) (n + 1) w (by omega) (by omega)
        have hp : (marksFrom k N)[i]'(by rw [marksFrom_length]; exact hlt) = markPD n := by
          have h2 := marksFrom_at k N i hlt
          rw [hni.out]
          rw [List.getElem?_eq_getElem (by rw [marksFrom_length]; exact hlt)] at h2
          exact Option.some.inj h2
        have hcell : ∀ j u, j < 4 → (markPD n).cells[j]? = some u → w.cell? ⟨g, i * 4 + j, none⟩ = some u := fun j u hj hu =>
          owns_cell H.out (by rw [psCells_at _ i (by rw [marksFrom_length]; exact hlt) j hj, hp]; exact hu)
        have c0 : w.cell? ⟨g, i * 4, none⟩ = some (.complex .f32 (mk32 n) one32) := hcell 0 _ (by omega) rfl
        have c1 : w.cell? ⟨g, i * 4 + 1, none⟩ = some (.complex .f32 (mk32 (n + 1)) one32) := hcell 1 _ (by omega) rfl
        have c2 : w.cell? ⟨g, i * 4 + 2, none⟩ = some (.float .f32 (floatOfInt .f32 ((n : Int) + 1 + 1))) := hcell 2 _ (by omega) rfl
        have c3 : w.cell? ⟨g, i * 4 + 3, none⟩ = some (.float .f32 (floatOfInt .f32 ((n : Int) + 1 + 1 + 1))) := hcell 3 _ (by omega) rfl
        have o0 := (mark_bits n (by omega)).2
        have o1 := (mark_bits (n + 1) (by omega)).2
        have o2 : FloatKind.f32.format.order (floatOfInt .f32 ((n : Int) + 1 + 1)) (floatOfInt .f32 ((n : Int) + 1 + 1)) = some .eq := (mark_bits (n + 2) (by omega)).2
        have o3 : FloatKind.f32.format.order (floatOfInt .f32 ((n : Int) + 1 + 1 + 1)) (floatOfInt .f32 ((n : Int) + 1 + 1 + 1)) = some .eq := (mark_bits (n + 3) (by omega)).2
        have oo := one_bits.2
        clear hcell hp
        go_wp2_with fail
        refine ⟨⟨i + 1, n + 4, by omega, by have h := hni.out; omega, by go_num, by go_num, keep (by have h := hni.out; omega)⟩, by simp [intOf]; omega⟩
      · obtain rfl : i = N := by omega
        go_wp2_with fail
        go_ret
        exact ⟨by rw [hni.out]; rfl, rfl⟩
end Go.Proofs.YtdkjaffnkgbcnaaGreatDoor
