/- Contracts: a grid and a place drawn from bytes. -/
import Derived.Test.YtdonmboidpppmaaGb
namespace Go.Proofs.Ytdonmboidpppmaa
open Go.RowKit Go.Sort Ieee

/-- Bytes that have been handed in, and lie below. -/
theorem l00From_ok (a : Option Addr) (n c : Nat) (w : World) (hb : Bytes w a n) :
    Calls Try.prog 29 #[.slice a n c] w fun e w' => e = .returned (.pointer (some ⟨w.heap.size, 0, none⟩)) ∧ Drawn w' w.heap.size a n c 0 ∧ Below w.heap.size w w' := by
  have P := keep (Has.made w 88 #[.slice a n c, .int .i64 0, .int .u64 0])
  have HB := keep hb
  clear hb
  go_enter Try.func29, Try.ntmps29
  go_wp2_with fail
  go_ret
  have hbel := (Below.refl w.heap.size w).alloc (Nat.le_refl _) (.cells #[.slice a n c, .int .i64 0, .int .u64 0] 88)
  refine ⟨rfl, ⟨⟨0, 0, Nat.le_refl _, P.out, by omega, by omega⟩, HB.out.later hbel (fun b o e hn => ?_), fun b o e hn => ?_⟩, hbel⟩
  all_goals
    obtain ⟨b', o', e', hl, _⟩ := HB.out 0 hn
    rw [e] at e'
    injection e' with e'
    injection e' with e'
    omega

set_option maxHeartbeats 4000000 in
set_option maxRecDepth 20000 in
theorem l02DrawGrid_ok (g : Nat) (a : Option Addr) (n c K : Nat) (w : World) (h : Drawn w g a n c K) (hK : K ≤ 900000) :
    Calls Try.prog 30 #[.pointer (some ⟨g, 0, none⟩)] w fun e w' => ∃ W H : Nat, (Sides W H ∧ H ≤ 6) ∧ e = .returned (gridV W H) ∧ Drawn w' g a n c (K + 2) ∧ w.grownBy w' (some g) := by
  have PK := keep (fun m K w h hK hm2 hm => pick_ok m g a n c K w h hK hm2 hm)
  have D0 := keep (h.alloc (.cells #[.int .i64 0, .int .i64 0] 25))
  have P0 := keep (Has.made w 25 #[.int .i64 0, .int .i64 0])
  have T0 := keep (gb_alloc (World.grownBy.refl w (some g)) (.cells #[.int .i64 0, .int .i64 0] 25))
  have lg := h.lt
  have hgn : (some g : Option Nat) ≠ some w.heap.size := by intro e; injection e with e; omega
  clear h
  go_enter Try.func30, Try.ntmps30
  go_wp2_with fail
  refine (PK.out 4 K _ D0.out (by omega) (by omega) (by omega)).mono ?_
  rintro e w1 ⟨r1, h1, rfl, d1, g1⟩
  have P0 := keep (P0.out.byG g1 hgn)
  have T1 := keep (gb_trans T0.out g1)
  have zz1 := T1.out.size
  have D1 := keep (d1.alloc (.cells #[.int .i64 (4 + (r1 : Int)), .int .i64 0] 25))
  have P4 := keep (Has.made w1 25 #[.int .i64 (4 + (r1 : Int)), .int .i64 0])
  have T1 := keep (gb_alloc T1.out (.cells #[.int .i64 (4 + (r1 : Int)), .int .i64 0] 25))
  have zP := P0.out.in_heap
  have P0 := keep (P0.out.beside (.cells #[.int .i64 (4 + (r1 : Int)), .int .i64 0] 25))
  have hgn4 : (some g : Option Nat) ≠ some w1.heap.size := by intro e; injection e with e; omega
  clear d1 g1
  go_wp2_with fail
  refine (PK.out 3 (K + 1) _ D1.out (by omega) (by omega) (by omega)).mono ?_
  rintro e w2 ⟨r2, h2, rfl, d2, g2⟩
  have p0 := P0.out.byG g2 hgn
  have p4 := P4.out.byG g2 hgn4
  have T2 := keep (gb_trans T1.out g2)
  have D2 := keep d2
  have c4 := p4.cells
  have u4 := p4.free
  have c0 := p0.cells
  have u0 := p0.free
  clear d2 g2
  go_wp2_with fail
  have q := ((p0.elsewhere (p := ⟨w1.heap.size, 1, none⟩) (by show w.heap.size ≠ w1.heap.size; omega) (.int .i64 (4 + (r2 : Int)))).written 0 (.int .i64 (4 + (r1 : Int)))).written 1 (.int .i64 (4 + (r2 : Int)))
  have qc := q.cells
  have bb := (((Below.refl w.heap.size w2).setCell (p := ⟨w1.heap.size, 1, none⟩) (by show w.heap.size ≤ w1.heap.size; omega) (.int .i64 (4 + (r2 : Int)))).setCell (p := ⟨w.heap.size, 0, none⟩) (Nat.le_refl _) (.int .i64 (4 + (r1 : Int)))).setCell (p := ⟨w.heap.size, 1, none⟩) (Nat.le_refl _) (.int .i64 (4 + (r2 : Int)))
  exact bodyPost_ret (v := .agg #[.int .i64 (4 + (r1 : Int)), .int .i64 (4 + (r2 : Int))]) (by simp [results, Try.results30, go_sem, qc]) rfl ⟨4 + r1, 4 + r2, ⟨⟨⟨by omega, by omega⟩, by omega, by omega⟩, by omega⟩, by unfold gridV; rfl, D2.out.later bb lg, gb_below T2.out bb (Nat.le_refl _)⟩

theorem Bytes.alloc {w : World} {a : Option Addr} {n : Nat} (h : Bytes w a n) (o : Obj) : Bytes (w.alloc o) a n := h.later ((Below.refl w.heap.size w).alloc (Nat.le_refl _) o) (fun b o e hn => by
  obtain ⟨b', o', e', hl, _⟩ := h 0 hn
  rw [e] at e'
  injection e' with e'
  injection e' with e'
  omega)

set_option maxHeartbeats 4000000 in
theorem R8Grid_ok (a : Option Addr) (n c : Nat) (w : World) (hb : Bytes w a n) :
    Calls Try.prog 6 #[.slice a n c] w fun e w' => ∃ W H : Nat, (Sides W H ∧ H ≤ 6) ∧ e = .returned (gridV W H) ∧ Below w.heap.size w w' := by
  have FR := keep (l00From_ok a n c _ (hb.alloc (.cells #[.int .i64 0, .int .i64 0] 25)))
  have DG := keep (fun w1 h => l02DrawGrid_ok (w.heap.size + 1) a n c 0 w1 h (by omega))
  have P := keep (Has.made w 25 #[.int .i64 0, .int .i64 0])
  clear hb
  go_enter Try.func6, Try.ntmps6
  go_wp2_with fail
  refine FR.out.mono ?_
  rintro e w1 ⟨rfl, hd, hb⟩
  rw [World.size_alloc] at hd
  have HD := keep hd
  have p1 := P.out.after hb
  have HB := keep (((Below.refl w.heap.size w).alloc (Nat.le_refl _) (.cells #[.int .i64 0, .int .i64 0] 25)).trans (hb.mono (by simp)))
  have P1 := keep p1
  clear hd hb p1
  go_wp2_with fail
  refine (DG.out _ HD.out).mono ?_
  rintro e w2 ⟨W, H, hs, rfl, hd, hg⟩
  have hB2 := HB.out.grown hg HB.out.size (fun g e => by injection e with e; omega)
  have p2 := P1.out.byG hg (by intro e; injection e with e; omega)
  have c2 := p2.cells
  have u2 := p2.free
  have HS := keep hs
  clear hd hg hs
  unfold gridV
  go_wp2_with fail
  have q := (p2.written 0 (.int .i64 W)).written 1 (.int .i64 H)
  have qc := q.cells
  exact bodyPost_ret (v := .agg #[.int .i64 W, .int .i64 H]) (by simp [results, Try.results6, go_sem, qc]) rfl ⟨W, H, HS.out, rfl, (hB2.setCell (Nat.le_refl _) _).setCell (Nat.le_refl _) _⟩
end Go.Proofs.Ytdonmboidpppmaa
