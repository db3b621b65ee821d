/- Contract: a drawn particle. Its numbers are small fractions, as words of their own. -/
import Derived.Test.YtdonmboidpppmaaGa
import Derived.Test.YtdonmboidpppmaaGe
namespace Go.Proofs.Ytdonmboidpppmaa
open Go.RowKit Ieee

theorem div8_all : ∀ n : Fin 256, floatBits .quo .f32 (floatOfInt .f32 ((n.val : Int) - 64)) 1090519040 = some (wd single 3 ((n.val : Int) - 64)) := by decide +kernel
theorem div8 (x : Int) (h0 : -64 ≤ x) (h1 : x ≤ 191) : floatBits .quo .f32 (floatOfInt .f32 x) 1090519040 = some (wd single 3 x) := by
  have h := div8_all ⟨(x + 64).toNat, by omega⟩
  rw [show (((x + 64).toNat : Nat) : Int) - 64 = x by omega] at h
  exact h
theorem div2_all : ∀ n : Fin 64, floatBits .quo .f32 (floatOfInt .f32 ((n.val : Int) - 32)) 1073741824 = some (wd single 1 ((n.val : Int) - 32)) := by decide +kernel
theorem div2 (x : Int) (h0 : -32 ≤ x) (h1 : x ≤ 31) : floatBits .quo .f32 (floatOfInt .f32 x) 1073741824 = some (wd single 1 x) := by
  have h := div2_all ⟨(x + 32).toNat, by omega⟩
  rw [show (((x + 32).toNat : Nat) : Int) - 32 = x by omega] at h
  exact h
theorem div4_all : ∀ n : Fin 64, floatBits .quo .f32 (floatOfInt .f32 ((n.val : Int) - 32)) 1082130432 = some (wd single 2 ((n.val : Int) - 32)) := by decide +kernel
theorem div4 (x : Int) (h0 : -32 ≤ x) (h1 : x ≤ 31) : floatBits .quo .f32 (floatOfInt .f32 x) 1082130432 = some (wd single 2 x) := by
  have h := div4_all ⟨(x + 32).toNat, by omega⟩
  rw [show (((x + 32).toNat : Nat) : Int) - 32 = x by omega] at h
  exact h

/-- A particle's numbers as integers: places and speeds in eighths, the charge in halves, the mass in quarters. -/
structure GP where
  x : Int
  y : Int
  u : Int
  v : Int
  q : Int
  m : Int
def GP.ok (p : GP) : Prop := (0 ≤ p.x ∧ p.x ≤ 63) ∧ (0 ≤ p.y ∧ p.y ≤ 63) ∧ (-8 ≤ p.u ∧ p.u ≤ 8) ∧ (-8 ≤ p.v ∧ p.v ≤ 8) ∧ (-4 ≤ p.q ∧ p.q ≤ 4) ∧ (1 ≤ p.m ∧ p.m ≤ 8)
def GP.agg (p : GP) : Value := .agg #[.complex .f32 (wd single 3 p.x) (wd single 3 p.y), .complex .f32 (wd single 3 p.u) (wd single 3 p.v), .float .f32 (wd single 1 p.q), .float .f32 (wd single 2 p.m)]

theorem Has.byG {w w' : World} {g : Nat} {t : TypeId} {cs : Array Value} {row : Option Nat} (h : Has w g t cs) (hg : w.grownBy w' row) (hne : row ≠ some g) : Has w' g t cs :=
  (hg.block g h.in_heap (fun e => hne e.symm)).trans h
theorem gb_trans {w w1 w2 : World} {r : Option Nat} (h : w.grownBy w1 r) (k : w1.grownBy w2 r) : w.grownBy w2 r :=
  ⟨k.os.trans h.os, k.tape.trans h.tape, k.output.trans h.output, Nat.le_trans h.size k.size, fun i hi hne => (k.block i (Nat.lt_of_lt_of_le hi h.size) hne).trans (h.block i hi hne)⟩
theorem gb_alloc {w w1 : World} {r : Option Nat} (h : w.grownBy w1 r) (o : Obj) : w.grownBy (w1.alloc o) r :=
  ⟨h.os, h.tape, h.output, Nat.le_trans h.size (by simp), fun i hi hne => (Below.heap_alloc w1 o i (Nat.lt_of_lt_of_le hi h.size)).trans (h.block i hi hne)⟩
theorem gb_set {w w1 : World} {r : Option Nat} (h : w.grownBy w1 r) {p : Addr} (hp : w.heap.size ≤ p.block) (u : Value) : w.grownBy (w1.setCell p u) r :=
  ⟨h.os, h.tape, h.output, by simpa [World.setCell] using h.size, fun i hi hne => (Below.heap_setCell w1 p u i (by omega)).trans (h.block i hi hne)⟩
theorem gb_below {w w1 w2 : World} {r : Option Nat} (h : w.grownBy w1 r) {B : Nat} (k : Below B w1 w2) (hB : w.heap.size ≤ B) : w.grownBy w2 r :=
  ⟨k.os.trans h.os, k.tape.trans h.tape, k.output.trans h.output, Nat.le_trans h.size k.size, fun i hi hne => (k.block i (Nat.lt_of_lt_of_le hi hB)).trans (h.block i hi hne)⟩

/-- What is handed back: a drawn particle; the source has moved on. -/
def OneOut (g : Nat) (a : Option Addr) (n c K : Nat) (w : World) (e : Ending) (w' : World) : Prop := ∃ p : GP, p.ok ∧ e = .returned p.agg ∧ Drawn w' g a n c (K + 6) ∧ w.grownBy w' (some g)

set_option maxHeartbeats 4000000 in
set_option maxRecDepth 20000 in
theorem l02DrawOne_any (g : Nat) (a : Option Addr) (n c K : Nat) (w : World) (h : Drawn w g a n c K) (hK : K ≤ 900000) :
    Calls Try.prog 32 #[.pointer (some ⟨g, 0, none⟩)] w (OneOut g a n c K w) := by
  have H := keep (fun m K w h hK hm2 hm => pick_ok m g a n c K w h hK hm2 hm)
  have lg := h.lt
  have D0 := keep (h.alloc (.cells #[.complex .f32 0 0, .complex .f32 0 0, .float .f32 0, .float .f32 0] 41))
  have P0 := keep (Has.made w 41 #[.complex .f32 0 0, .complex .f32 0 0, .float .f32 0, .float .f32 0])
  have T0 := keep (gb_alloc (World.grownBy.refl w (some g)) (.cells #[.complex .f32 0 0, .complex .f32 0 0, .float .f32 0, .float .f32 0] 41))
  have hgn : (some g : Option Nat) ≠ some w.heap.size := by intro e; injection e with e; omega
  clear h
  go_enter Try.func32, Try.ntmps32
  go_wp2_with fail
  refine (H.out 64 K _ D0.out (by omega) (by omega) (by omega)).mono ?_
  rintro e w1 ⟨r1, h1, rfl, d1, g1⟩
  have f1 := frun (div8 (r1 : Int) (by omega) (by omega))
  have P0 := keep (P0.out.byG g1 hgn)
  have T1 := keep (gb_trans T0.out g1)
  have zz1 := T1.out.size
  have D1 := keep d1
  clear d1 g1
  go_wp2_with fail
  refine (H.out 64 (K + 1) _ D1.out (by omega) (by omega) (by omega)).mono ?_
  rintro e w2 ⟨r2, h2, rfl, d2, g2⟩
  have f2 := frun (div8 (r2 : Int) (by omega) (by omega))
  have P0 := keep (P0.out.byG g2 hgn)
  have T2 := keep (gb_trans T1.out g2)
  have zz2 := T2.out.size
  have zP := P0.out.in_heap
  have P4 := keep (Has.made w2 41 #[.complex .f32 (wd single 3 (r1 : Int)) (wd single 3 (r2 : Int)), .complex .f32 0 0, .float .f32 0, .float .f32 0])
  have D2 := keep (d2.alloc (.cells #[.complex .f32 (wd single 3 (r1 : Int)) (wd single 3 (r2 : Int)), .complex .f32 0 0, .float .f32 0, .float .f32 0] 41))
  have T2 := keep (gb_alloc T2.out (.cells #[.complex .f32 (wd single 3 (r1 : Int)) (wd single 3 (r2 : Int)), .complex .f32 0 0, .float .f32 0, .float .f32 0] 41))
  have P0 := keep (P0.out.beside (.cells #[.complex .f32 (wd single 3 (r1 : Int)) (wd single 3 (r2 : Int)), .complex .f32 0 0, .float .f32 0, .float .f32 0] 41))
  have hgn4 : (some g : Option Nat) ≠ some w2.heap.size := by intro e; injection e with e; omega
  clear d2 g2
  go_wp2_with fail
  refine (H.out 17 (K + 2) _ D2.out (by omega) (by omega) (by omega)).mono ?_
  rintro e w3 ⟨r3, h3, rfl, d3, g3⟩
  have f3 := frun (div8 ((r3 : Int) - 8) (by omega) (by omega))
  have P0 := keep (P0.out.byG g3 hgn)
  have T3 := keep (gb_trans T2.out g3)
  have zz3 := T3.out.size
  have P4 := keep (P4.out.byG g3 hgn4)
  have D3 := keep d3
  clear d3 g3
  go_wp2_with fail
  refine (H.out 17 (K + 3) _ D3.out (by omega) (by omega) (by omega)).mono ?_
  rintro e w4 ⟨r4, h4, rfl, d4, g4⟩
  have f4 := frun (div8 ((r4 : Int) - 8) (by omega) (by omega))
  have P0 := keep (P0.out.byG g4 hgn)
  have T4 := keep (gb_trans T3.out g4)
  have zz4 := T4.out.size
  have p4 := P4.out.byG g4 hgn4
  have c4 := p4.cells
  have u4 := p4.free
  have D4 := keep d4
  clear d4 g4
  go_wp2_with fail
  have P4 := keep (p4.written 1 (.complex .f32 (wd single 3 ((r3 : Int) - 8)) (wd single 3 ((r4 : Int) - 8))))
  have D4 := keep (D4.out.later (((Below.refl w2.heap.size w4).setCell (p := ⟨w2.heap.size, 1, none⟩) (Nat.le_refl _) (.complex .f32 (wd single 3 ((r3 : Int) - 8)) (wd single 3 ((r4 : Int) - 8))))) (by omega))
  have T4 := keep (gb_set T4.out (p := ⟨w2.heap.size, 1, none⟩) (by omega) (.complex .f32 (wd single 3 ((r3 : Int) - 8)) (wd single 3 ((r4 : Int) - 8))))
  have P0 := keep (P0.out.elsewhere (p := ⟨w2.heap.size, 1, none⟩) (by show w.heap.size ≠ w2.heap.size; omega) (.complex .f32 (wd single 3 ((r3 : Int) - 8)) (wd single 3 ((r4 : Int) - 8))))
  clear c4 u4 p4
  refine (H.out 9 (K + 4) _ D4.out (by omega) (by omega) (by omega)).mono ?_
  rintro e w5 ⟨r5, h5, rfl, d5, g5⟩
  have f5 := frun (div2 ((r5 : Int) - 4) (by omega) (by omega))
  have P0 := keep (P0.out.byG g5 hgn)
  have T5 := keep (gb_trans T4.out g5)
  have zz5 := T5.out.size
  have p4 := P4.out.byG g5 hgn4
  have c4 := p4.cells
  have u4 := p4.free
  have D5 := keep d5
  clear d5 g5
  go_wp2_with fail
  have P4 := keep (p4.written 2 (.float .f32 (wd single 1 ((r5 : Int) - 4))))
  have D5 := keep (D5.out.later (((Below.refl w2.heap.size w5).setCell (p := ⟨w2.heap.size, 2, none⟩) (Nat.le_refl _) (.float .f32 (wd single 1 ((r5 : Int) - 4))))) (by omega))
  have T5 := keep (gb_set T5.out (p := ⟨w2.heap.size, 2, none⟩) (by omega) (.float .f32 (wd single 1 ((r5 : Int) - 4))))
  have P0 := keep (P0.out.elsewhere (p := ⟨w2.heap.size, 2, none⟩) (by show w.heap.size ≠ w2.heap.size; omega) (.float .f32 (wd single 1 ((r5 : Int) - 4))))
  clear c4 u4 p4
  refine (H.out 8 (K + 5) _ D5.out (by omega) (by omega) (by omega)).mono ?_
  rintro e w6 ⟨r6, h6, rfl, d6, g6⟩
  have f6 := frun (div4 (1 + (r6 : Int)) (by omega) (by omega))
  have P0 := keep (P0.out.byG g6 hgn)
  have T6 := keep (gb_trans T5.out g6)
  have zz6 := T6.out.size
  have p4 := P4.out.byG g6 hgn4
  have c4 := p4.cells
  have u4 := p4.free
  have p0 := P0.out
  have c0 := p0.cells
  have u0 := p0.free
  have D6 := keep d6
  have gok : GP.ok ⟨r1, r2, (r3 : Int) - 8, (r4 : Int) - 8, (r5 : Int) - 4, 1 + (r6 : Int)⟩ := ⟨⟨by show (0 : Int) ≤ r1; omega, by show (r1 : Int) ≤ 63; omega⟩, ⟨by show (0 : Int) ≤ r2; omega, by show (r2 : Int) ≤ 63; omega⟩, ⟨by show (-8 : Int) ≤ (r3 : Int) - 8; omega, by show (r3 : Int) - 8 ≤ 8; omega⟩, ⟨by show (-8 : Int) ≤ (r4 : Int) - 8; omega, by show (r4 : Int) - 8 ≤ 8; omega⟩, ⟨by show (-4 : Int) ≤ (r5 : Int) - 4; omega, by show (r5 : Int) - 4 ≤ 4; omega⟩, by show (1 : Int) ≤ 1 + (r6 : Int); omega, by show 1 + (r6 : Int) ≤ 8; omega⟩
  have GOK := keep gok
  clear d6 g6 gok
  go_wp2_with fail
  have q := ((((p0.elsewhere (p := ⟨w2.heap.size, 3, none⟩) (by show w.heap.size ≠ w2.heap.size; omega) (.float .f32 (wd single 2 (1 + (r6 : Int))))).written 0 (.complex .f32 (wd single 3 (r1 : Int)) (wd single 3 (r2 : Int)))).written 1 (.complex .f32 (wd single 3 ((r3 : Int) - 8)) (wd single 3 ((r4 : Int) - 8)))).written 2 (.float .f32 (wd single 1 ((r5 : Int) - 4)))).written 3 (.float .f32 (wd single 2 (1 + (r6 : Int))))
  have qc := q.cells
  have bb := ((((((Below.refl w.heap.size w6).setCell (p := ⟨w2.heap.size, 3, none⟩) (by show w.heap.size ≤ w2.heap.size; omega) (.float .f32 (wd single 2 (1 + (r6 : Int))))).setCell (p := ⟨w.heap.size, 0, none⟩) (Nat.le_refl _) (.complex .f32 (wd single 3 (r1 : Int)) (wd single 3 (r2 : Int)))).setCell (p := ⟨w.heap.size, 1, none⟩) (Nat.le_refl _) (.complex .f32 (wd single 3 ((r3 : Int) - 8)) (wd single 3 ((r4 : Int) - 8)))).setCell (p := ⟨w.heap.size, 2, none⟩) (Nat.le_refl _) (.float .f32 (wd single 1 ((r5 : Int) - 4)))).setCell (p := ⟨w.heap.size, 3, none⟩) (Nat.le_refl _) (.float .f32 (wd single 2 (1 + (r6 : Int)))))
  exact bodyPost_ret (v := GP.agg ⟨r1, r2, (r3 : Int) - 8, (r4 : Int) - 8, (r5 : Int) - 4, 1 + (r6 : Int)⟩) (by simp [results, Try.results32, go_sem, qc]; rfl) rfl ⟨_, GOK.out, rfl, D6.out.later bb lg, gb_below T6.out bb (Nat.le_refl _)⟩
end Go.Proofs.Ytdonmboidpppmaa
