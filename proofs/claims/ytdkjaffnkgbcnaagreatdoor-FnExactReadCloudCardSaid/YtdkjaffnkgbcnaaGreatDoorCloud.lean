/- Contracts of the laws' own helpers over clouds. -/
import Derived.Test.YtdkjaffnkgbcnaaGreatDoorEq
namespace Go.Proofs.YtdkjaffnkgbcnaaGreatDoor
open Go.RowKit Go.Sort

/-- A cloud's value: its particles' slice is v. -/
def cloudV (wd hg : Int) (v : Value) (mg bk : Nat) : Value := .agg #[.int .i64 wd, .int .i64 hg, v, .float .f32 mg, .float .f32 bk]

set_option maxHeartbeats 1000000 in
set_option maxRecDepth 20000 in
theorem eqGrid_self (a b : Int) (w : World) :
    Calls Tryz.prog 15 #[.agg #[.int .i64 a, .int .i64 b], .agg #[.int .i64 a, .int .i64 b]] w fun e w' => e = .returned (.bool true) ∧ Below w.heap.size w w' := by
  have ha : (a != a) = false := by simp
  have hb : (b != b) = false := by simp
  go_enter Tryz.func15, Tryz.ntmps15
  go_wp2_with fail
  go_ret
  exact ⟨rfl, by go_grown⟩

set_option maxHeartbeats 1000000 in
set_option maxRecDepth 20000 in
theorem eqCloud_any (B1 B2 : Nat) (v1 v2 : Value) (ps : List PD) (wd hg : Int) (mg bk : Nat) (w : World) (h1 : w.ownsRow B1 43 4 v1 ps.length (psCells ps)) (h2 : w.ownsRow B2 43 4 v2 ps.length (psCells ps)) (hf : ps.all PD.fin = true) (hN : ps.length ≤ 1000000)
    (hm : fin .f32 mg = true) (hbk : fin .f32 bk = true) :
    Calls Tryz.prog 6 #[cloudV wd hg v1 mg bk, cloudV wd hg v2 mg bk] w fun e w' => e = .returned (.bool true) ∧ Below w.heap.size w w' := by
  obtain ⟨a1, n1, c1, rfl⟩ : ∃ a n c, v1 = .slice a n c := by
    rcases h1.2 with ⟨rfl, _⟩ | ⟨g, cap, cur, rfl, _⟩ <;> exact ⟨_, _, _, rfl⟩
  obtain ⟨a2, n2, c2, rfl⟩ : ∃ a n c, v2 = .slice a n c := by
    rcases h2.2 with ⟨rfl, _⟩ | ⟨g, cap, cur, rfl, _⟩ <;> exact ⟨_, _, _, rfl⟩
  have q1 := fun w => run_wide hm w
  have q2 := fun w => run_wide hbk w
  have E3 := keep (fun w => sameFloat_self (widen mg) w (widen_not_nan hm))
  have E4 := keep (fun w => sameFloat_self (widen bk) w (widen_not_nan hbk))
  have HF := keep (And.intro hf hN)
  have H1 := keep h1
  have H2 := keep h2
  clear h1 h2 hf hN
  unfold cloudV
  go_enter Tryz.func6, Tryz.ntmps6
  go_wp2_with fail
  refine (eqGrid_self _ _ _).mono ?_
  rintro e w1 ⟨rfl, hb1⟩
  have p1 := (((Has.made w 27 #[.int .i64 wd, .int .i64 hg, .slice a1 n1 c1, .float .f32 mg, .float .f32 bk]).beside (.cells #[.int .i64 wd, .int .i64 hg, .slice a2 n2 c2, .float .f32 mg, .float .f32 bk] 27))).after hb1
  have p2 := (Has.made (w.alloc (.cells #[.int .i64 wd, .int .i64 hg, .slice a1 n1 c1, .float .f32 mg, .float .f32 bk] 27)) 27 #[.int .i64 wd, .int .i64 hg, .slice a2 n2 c2, .float .f32 mg, .float .f32 bk]).after hb1
  rw [World.size_alloc] at p2
  have o1 := owns_below ((H1.out.alloc _).alloc _) hb1
  have o2 := owns_below ((H2.out.alloc _).alloc _) hb1
  have HE := keep (eqParticleS_any B1 B2 _ _ ps w1 o1 o2 HF.out.1 HF.out.2)
  have hB := keep (((Below.refl w.heap.size w).alloc (Nat.le_refl _) (.cells #[.int .i64 wd, .int .i64 hg, .slice a1 n1 c1, .float .f32 mg, .float .f32 bk] 27)).alloc (by simp) (.cells #[.int .i64 wd, .int .i64 hg, .slice a2 n2 c2, .float .f32 mg, .float .f32 bk] 27) |>.trans (hb1.mono (by simp; omega)))
  clear o1 o2 hb1
  have x1 := p1.cells
  have x2 := p2.cells
  go_wp2_with fail
  refine HE.out.mono ?_
  rintro e w2 ⟨rfl, hb2⟩
  have r1 := p1.after hb2
  have r2 := p2.after hb2
  have hC := keep (hB.out.trans (hb2.mono hB.out.size))
  clear hb2 x1 x2 p1 p2 HE
  have x1 := r1.cells
  have x2 := r2.cells
  go_wp2_with fail
  refine (E3.out _).mono ?_
  rintro e w' ⟨rfl, rfl⟩
  go_wp2_with fail
  refine (E4.out _).mono ?_
  rintro e w' ⟨rfl, rfl⟩
  go_wp2_with fail
  go_ret
  exact ⟨rfl, hC.out⟩

set_option maxHeartbeats 1000000 in
set_option maxRecDepth 20000 in
theorem markCloud_any (B : Nat) (v : Value) (ps : List PD) (k : Nat) (wd hg : Int) (mg bk : Nat) (w : World) (hown : w.ownsRow B 43 4 v ps.length (psCells ps)) (hk : k + 4 * ps.length < 1590) :
    Calls Tryz.prog 7 #[cloudV wd hg v mg bk, .int .i64 k] w fun e w' => e = .returned (.int .i64 (k + 4 * ps.length : Nat)) ∧ w'.ownsRow B 43 4 v ps.length (psCells (marksFrom k ps.length)) ∧ w.grownBy w' v.ownBlock := by
  obtain ⟨a1, n1, c1, rfl⟩ : ∃ a n c, v = .slice a n c := by
    rcases hown.2 with ⟨rfl, _⟩ | ⟨g, cap, cur, rfl, _⟩ <;> exact ⟨_, _, _, rfl⟩
  have HM := keep (markParticleS_any B _ ps k (w.alloc (.cells #[.int .i64 wd, .int .i64 hg, .slice a1 n1 c1, .float .f32 mg, .float .f32 bk] 27)) (hown.alloc _) hk)
  clear hown
  unfold cloudV
  go_enter Tryz.func7, Tryz.ntmps7
  go_wp2_with fail
  refine HM.out.mono ?_
  rintro e w' ⟨rfl, ho, hg2⟩
  go_wp2_with fail
  go_ret
  refine ⟨rfl, ho, ⟨hg2.os, hg2.tape, hg2.output, Nat.le_trans (by simp) hg2.size, fun k hk hne => ?_⟩⟩
  rw [hg2.block k (by simp; omega) hne]
  exact Below.heap_alloc w _ k hk

set_option maxHeartbeats 1000000 in
set_option maxRecDepth 20000 in
theorem heldCloud_any (B : Nat) (v : Value) (N k : Nat) (wd hg : Int) (mg bk : Nat) (w : World) (hown : w.ownsRow B 43 4 v N (psCells (marksFrom k N))) (hk : k + 4 * N < 1590) :
    Calls Tryz.prog 8 #[cloudV wd hg v mg bk, .int .i64 k] w fun e w' => e = .returned (.int .i64 (k + 4 * N : Nat)) ∧ Below w.heap.size w w' := by
  obtain ⟨a1, n1, c1, rfl⟩ : ∃ a n c, v = .slice a n c := by
    rcases hown.2 with ⟨rfl, _⟩ | ⟨g, cap, cur, rfl, _⟩ <;> exact ⟨_, _, _, rfl⟩
  have HM := keep (heldParticleS_any B _ N k (w.alloc (.cells #[.int .i64 wd, .int .i64 hg, .slice a1 n1 c1, .float .f32 mg, .float .f32 bk] 27)) (hown.alloc _) hk)
  have hd : decide (((k + 4 * N : Nat) : Int) < 0) = false := by simp; omega
  clear hown
  generalize k + 4 * N = r at *
  unfold cloudV
  go_enter Tryz.func8, Tryz.ntmps8
  go_wp2_with fail
  refine HM.out.mono ?_
  rintro e w' ⟨rfl, rfl⟩
  go_wp2_with fail
  go_ret
  exact ⟨rfl, by go_grown⟩
end Go.Proofs.YtdkjaffnkgbcnaaGreatDoor
