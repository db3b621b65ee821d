/- Contract: a particle drawn in eighths, its charge in quarters, its mass in halves. -/
import Derived.Test.YtnmdgbnophclnaaGb
import Derived.Test.YtnmdgbnophclnaaHa
import Derived.Test.YtnmdgbnophclnaaHc
namespace Go.Proofs.Ytnmdgbnophclnaa
open Go.RowKit Ieee

/-- A particle's numbers as integers: places and speeds in eighths, the charge in quarters, the mass in halves. -/
structure QP where
  x : Int
  y : Int
  u : Int
  v : Int
  q : Int
  m : Int
def QP.ok (p : QP) : Prop := (0 ≤ p.x ∧ p.x ≤ 55) ∧ (0 ≤ p.y ∧ p.y ≤ 55) ∧ (-8 ≤ p.u ∧ p.u ≤ 8) ∧ (-8 ≤ p.v ∧ p.v ≤ 8) ∧ (-4 ≤ p.q ∧ p.q ≤ 4) ∧ (1 ≤ p.m ∧ p.m ≤ 4)
def QP.agg (p : QP) : Value := .agg #[.complex .f32 (wd single 3 p.x) (wd single 3 p.y), .complex .f32 (wd single 3 p.u) (wd single 3 p.v), .float .f32 (wd single 2 p.q), .float .f32 (wd single 1 p.m)]
def QP.pd (p : QP) : PD := ⟨wd single 3 p.x, wd single 3 p.y, wd single 3 p.u, wd single 3 p.v, wd single 2 p.q, wd single 1 p.m⟩
theorem QP.pd_cells (p : QP) : p.pd.cells = [.complex .f32 (wd single 3 p.x) (wd single 3 p.y), .complex .f32 (wd single 3 p.u) (wd single 3 p.v), .float .f32 (wd single 2 p.q), .float .f32 (wd single 1 p.m)] := by
  unfold PD.cells QP.pd
  rfl

theorem gtr_mass1 (m : Int) (h1 : 1 ≤ m) (h2 : m ≤ 8) : (FloatKind.f32.format.order (wd single 1 m) 0 == some .gt) = true := by
  have e := order_wd (f := single) fit_single (k := 1) (a := m) (b := 0) (by decide) (by show m.natAbs < 16777216; omega) (by decide)
  rw [wd_zero] at e
  rw [show FloatKind.f32.format.order (wd single 1 m) 0 = single.order (wd single 1 m) 0 from rfl, e]
  have : compare m 0 = .gt := by rw [Int.compare_eq_gt]; omega
  rw [this]; rfl
theorem QP.pd_ok (p : QP) (h : p.ok) : p.pd.ok = true := by
  obtain ⟨h1, h2, h3, h4, h5, h6⟩ := h
  unfold PD.ok validP finC QP.pd
  simp only
  rw [fin_wd 3 p.x (by omega) (by omega), fin_wd 3 p.y (by omega) (by omega), fin_wd 3 p.u (by omega) (by omega), fin_wd 3 p.v (by omega) (by omega), fin_wd 2 p.q (by omega) (by omega), fin_wd 1 p.m (by omega) (by omega), gtr_mass1 p.m (by omega) (by omega)]
  rfl
theorem QP.all_ok (ps : List QP) (h : ∀ p ∈ ps, p.ok) : (ps.map QP.pd).all PD.ok = true := by
  rw [List.all_map]
  exact List.all_eq_true.2 fun p hp => QP.pd_ok p (h p hp)
theorem QP.num {p : QP} (h : p.ok) : p.pd.num := by
  obtain ⟨h1, h2, h3, h4, h5, h6⟩ := h
  exact ⟨num_wd 3 p.x (by omega) (by omega), num_wd 3 p.y (by omega) (by omega), num_wd 3 p.u (by omega) (by omega), num_wd 3 p.v (by omega) (by omega), num_wd 2 p.q (by omega) (by omega), num_wd 1 p.m (by omega) (by omega)⟩

/-- What is handed back: a drawn particle; the source has moved on. -/
def QneOut (g : Nat) (a : Option Addr) (n c K : Nat) (w : World) (e : Ending) (w' : World) : Prop := ∃ p : QP, p.ok ∧ e = .returned p.agg ∧ Drawn w' g a n c (K + 6) ∧ w.grownBy w' (some g)

set_option maxHeartbeats 4000000 in
set_option maxRecDepth 20000 in
theorem b10One_any (g : Nat) (a : Option Addr) (n c K : Nat) (w : World) (h : Drawn w g a n c K) (hK : K ≤ 900000) :
    Calls Try.prog 45 #[.pointer (some ⟨g, 0, none⟩)] w (QneOut g a n c K w) := by
  have H := keep (fun m K w h hK hm2 hm => pick_ok m g a n c K w h hK hm2 hm)
  have lg := h.lt
  have D0 := keep (h.alloc (.cells #[.complex .f32 0 0, .complex .f32 0 0, .float .f32 0, .float .f32 0] 52))
  have P0 := keep (Has.made w 52 #[.complex .f32 0 0, .complex .f32 0 0, .float .f32 0, .float .f32 0])
  have T0 := keep (gb_alloc (World.grownBy.refl w (some g)) (.cells #[.complex .f32 0 0, .complex .f32 0 0, .float .f32 0, .float .f32 0] 52))
  have hgn : (some g : Option Nat) ≠ some w.heap.size := by intro e; injection e with e; omega
  clear h
  go_enter Try.func45, Try.ntmps45
  go_wp2_with fail
  refine (H.out 56 K _ D0.out (by omega) (by omega) (by omega)).mono ?_
  rintro e w1 ⟨r1, h1, rfl, d1, g1⟩
  have f1 := frun (div8 (r1 : Int) (by omega) (by omega))
  have P0 := keep (P0.out.byG g1 hgn)
  have T1 := keep (gb_trans T0.out g1)
  have zz1 := T1.out.size
  have D1 := keep d1
  clear d1 g1
  go_wp2_with fail
  refine (H.out 56 (K + 1) _ D1.out (by omega) (by omega) (by omega)).mono ?_
  rintro e w2 ⟨r2, h2, rfl, d2, g2⟩
  have f2 := frun (div8 (r2 : Int) (by omega) (by omega))
  have P0 := keep (P0.out.byG g2 hgn)
  have T2 := keep (gb_trans T1.out g2)
  have zz2 := T2.out.size
  have zP := P0.out.in_heap
  have P4 := keep (Has.made w2 52 #[.complex .f32 (wd single 3 (r1 : Int)) (wd single 3 (r2 : Int)), .complex .f32 0 0, .float .f32 0, .float .f32 0])
  have D2 := keep (d2.alloc (.cells #[.complex .f32 (wd single 3 (r1 : Int)) (wd single 3 (r2 : Int)), .complex .f32 0 0, .float .f32 0, .float .f32 0] 52))
  have T2 := keep (gb_alloc T2.out (.cells #[.complex .f32 (wd single 3 (r1 : Int)) (wd single 3 (r2 : Int)), .complex .f32 0 0, .float .f32 0, .float .f32 0] 52))
  have P0 := keep (P0.out.beside (.cells #[.complex .f32 (wd single 3 (r1 : Int)) (wd single 3 (r2 : Int)), .complex .f32 0 0, .float .f32 0, .float .f32 0] 52))
  have hgn4 : (some g : Option Nat) ≠ some w2.heap.size := by intro e; injection e with e; omega
  clear d2 g2
  go_wp2_with fail
  refine (H.out 17 (K + 2) _ D2.out (by omega) (by omega) (by omega)).mono ?_
  rintro e w3 ⟨r3, h3, rfl, d3, g3⟩
  have f3 := frun (div8 ((r3 : Int) - 8) (by omega) (by omega))
  have P0 := keep (P0.out.byG g3 hgn)
  have T3 := keep (gb_trans T2.out g3)
  have zz3 := T3.out.size
  have P4 := keep (P4.out.byG g3 hgn4)
  have D3 := keep d3
  clear d3 g3
  go_wp2_with fail
  refine (H.out 17 (K + 3) _ D3.out (by omega) (by omega) (by omega)).mono ?_
  rintro e w4 ⟨r4, h4, rfl, d4, g4⟩
  have f4 := frun (div8 ((r4 : Int) - 8) (by omega) (by omega))
  have P0 := keep (P0.out.byG g4 hgn)
  have T4 := keep (gb_trans T3.out g4)
  have zz4 := T4.out.size
  have p4 := P4.out.byG g4 hgn4
  have c4 := p4.cells
  have u4 := p4.free
  have D4 := keep d4
  clear d4 g4
  go_wp2_with fail
  have P4 := keep (p4.written 1 (.complex .f32 (wd single 3 ((r3 : Int) - 8)) (wd single 3 ((r4 : Int) - 8))))
  have D4 := keep (D4.out.later (((Below.refl w2.heap.size w4).setCell (p := ⟨w2.heap.size, 1, none⟩) (Nat.le_refl _) (.complex .f32 (wd single 3 ((r3 : Int) - 8)) (wd single 3 ((r4 : Int) - 8))))) (by omega))
  have T4 := keep (gb_set T4.out (p := ⟨w2.heap.size, 1, none⟩) (by omega) (.complex .f32 (wd single 3 ((r3 : Int) - 8)) (wd single 3 ((r4 : Int) - 8))))
  have P0 := keep (P0.out.elsewhere (p := ⟨w2.heap.size, 1, none⟩) (by show w.heap.size ≠ w2.heap.size; omega) (.complex .f32 (wd single 3 ((r3 : Int) - 8)) (wd single 3 ((r4 : Int) - 8))))
  clear c4 u4 p4
  refine (H.out 9 (K + 4) _ D4.out (by omega) (by omega) (by omega)).mono ?_
  rintro e w5 ⟨r5, h5, rfl, d5, g5⟩
  have f5 := frun (div4 ((r5 : Int) - 4) (by omega) (by omega))
  have P0 := keep (P0.out.byG g5 hgn)
  have T5 := keep (gb_trans T4.out g5)
  have zz5 := T5.out.size
  have p4 := P4.out.byG g5 hgn4
  have c4 := p4.cells
  have u4 := p4.free
  have D5 := keep d5
  clear d5 g5
  go_wp2_with fail
  have P4 := keep (p4.written 2 (.float .f32 (wd single 2 ((r5 : Int) - 4))))
  have D5 := keep (D5.out.later (((Below.refl w2.heap.size w5).setCell (p := ⟨w2.heap.size, 2, none⟩) (Nat.le_refl _) (.float .f32 (wd single 2 ((r5 : Int) - 4))))) (by omega))
  have T5 := keep (gb_set T5.out (p := ⟨w2.heap.size, 2, none⟩) (by omega) (.float .f32 (wd single 2 ((r5 : Int) - 4))))
  have P0 := keep (P0.out.elsewhere (p := ⟨w2.heap.size, 2, none⟩) (by show w.heap.size ≠ w2.heap.size; omega) (.float .f32 (wd single 2 ((r5 : Int) - 4))))
  clear c4 u4 p4
  refine (H.out 4 (K + 5) _ D5.out (by omega) (by omega) (by omega)).mono ?_
  rintro e w6 ⟨r6, h6, rfl, d6, g6⟩
  have f6 := frun (div2 (1 + (r6 : Int)) (by omega) (by omega))
  have P0 := keep (P0.out.byG g6 hgn)
  have T6 := keep (gb_trans T5.out g6)
  have zz6 := T6.out.size
  have p4 := P4.out.byG g6 hgn4
  have c4 := p4.cells
  have u4 := p4.free
  have p0 := P0.out
  have c0 := p0.cells
  have u0 := p0.free
  have D6 := keep d6
  have gok : QP.ok ⟨r1, r2, (r3 : Int) - 8, (r4 : Int) - 8, (r5 : Int) - 4, 1 + (r6 : Int)⟩ := ⟨⟨by show (0 : Int) ≤ r1; omega, by show (r1 : Int) ≤ 55; omega⟩, ⟨by show (0 : Int) ≤ r2; omega, by show (r2 : Int) ≤ 55; omega⟩, ⟨by show (-8 : Int) ≤ (r3 : Int) - 8; omega, by show (r3 : Int) - 8 ≤ 8; omega⟩, ⟨by show (-8 : Int) ≤ (r4 : Int) - 8; omega, by show (r4 : Int) - 8 ≤ 8; omega⟩, ⟨by show (-4 : Int) ≤ (r5 : Int) - 4; omega, by show (r5 : Int) - 4 ≤ 4; omega⟩, by show (1 : Int) ≤ 1 + (r6 : Int); omega, by show 1 + (r6 : Int) ≤ 4; omega⟩
  have GOK := keep gok
  clear d6 g6 gok
  go_wp2_with fail
  have q := ((((p0.elsewhere (p := ⟨w2.heap.size, 3, none⟩) (by show w.heap.size ≠ w2.heap.size; omega) (.float .f32 (wd single 1 (1 + (r6 : Int))))).written 0 (.complex .f32 (wd single 3 (r1 : Int)) (wd single 3 (r2 : Int)))).written 1 (.complex .f32 (wd single 3 ((r3 : Int) - 8)) (wd single 3 ((r4 : Int) - 8)))).written 2 (.float .f32 (wd single 2 ((r5 : Int) - 4)))).written 3 (.float .f32 (wd single 1 (1 + (r6 : Int))))
  have qc := q.cells
  have bb := ((((((Below.refl w.heap.size w6).setCell (p := ⟨w2.heap.size, 3, none⟩) (by show w.heap.size ≤ w2.heap.size; omega) (.float .f32 (wd single 1 (1 + (r6 : Int))))).setCell (p := ⟨w.heap.size, 0, none⟩) (Nat.le_refl _) (.complex .f32 (wd single 3 (r1 : Int)) (wd single 3 (r2 : Int)))).setCell (p := ⟨w.heap.size, 1, none⟩) (Nat.le_refl _) (.complex .f32 (wd single 3 ((r3 : Int) - 8)) (wd single 3 ((r4 : Int) - 8)))).setCell (p := ⟨w.heap.size, 2, none⟩) (Nat.le_refl _) (.float .f32 (wd single 2 ((r5 : Int) - 4)))).setCell (p := ⟨w.heap.size, 3, none⟩) (Nat.le_refl _) (.float .f32 (wd single 1 (1 + (r6 : Int)))))
  exact bodyPost_ret (v := QP.agg ⟨r1, r2, (r3 : Int) - 8, (r4 : Int) - 8, (r5 : Int) - 4, 1 + (r6 : Int)⟩) (by simp [results, Try.results45, go_sem, qc]; rfl) rfl ⟨_, GOK.out, rfl, D6.out.later bb lg, gb_below T6.out bb (Nat.le_refl _)⟩
end Go.Proofs.Ytnmdgbnophclnaa
