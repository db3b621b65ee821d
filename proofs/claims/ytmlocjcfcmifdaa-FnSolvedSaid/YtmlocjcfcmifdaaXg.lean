/- Contracts: what a potential leaves at each corner (laplace), by words. No condition but that each step runs. -/
import Derived.Test.YtmlocjcfcmifdaaXf
namespace Go.Proofs.Ytmlocjcfcmifdaa
open Go.RowKit Go.Sort Ieee
set_option linter.unusedSimpArgs false
set_option linter.unusedVariables false

theorem ix_in (W H x y : Nat) (hx : x < W) (hy : y < H) : ix W H x y = x + W * y := by
  unfold ix
  rw [Int.emod_eq_of_lt (by omega) (by omega), Int.emod_eq_of_lt (by omega) (by omega)]
  have : (W : Int) * (y : Int) = ((W * y : Nat) : Int) := (Int.natCast_mul ..).symm
  rw [this]
  omega
theorem in_lt (W H x y : Nat) (hx : x < W) (hy : y < H) : x + W * y < W * H := by
  have h : W * (y + 1) ≤ W * H := Nat.mul_le_mul_left _ hy
  rw [Nat.mul_succ] at h
  omega

theorem xrun_ix (vs : Array Value) (i : Nat) (v : Value) (hi : i < 4) (h : vs[i]? = some v) (w : World) : (Instr.index 90 (.agg vs) (.int .i64 i)).run Try.prog w = .ok v w := by
  have h1 : (0 : Int) ≤ (i : Int) ∧ (i : Int) < 4 := by omega
  simp [Instr.index, run_underlying Try.underlying90, asIntOf, h1, part, h, go_sem]
  intro hc
  omega

/-- 4 times a number less its neighbours': what is done at each corner. -/
def LapW (W H : Nat) (v : Nat → Nat) (A : Nat → Nat → Nat) : Prop := ∀ x y : Nat, x < W → y < H →
  floatBits .mul .f32 1082130432 (v (x + W * y)) = some (A (x + W * y) 0) ∧
  floatBits .sub .f32 (A (x + W * y) 0) (v (ix W H ((x : Int) - 1) y)) = some (A (x + W * y) 1) ∧
  floatBits .sub .f32 (A (x + W * y) 1) (v (ix W H ((x : Int) + 1) y)) = some (A (x + W * y) 2) ∧
  floatBits .sub .f32 (A (x + W * y) 2) (v (ix W H x ((y : Int) - 1))) = some (A (x + W * y) 3) ∧
  floatBits .sub .f32 (A (x + W * y) 3) (v (ix W H x ((y : Int) + 1))) = some (A (x + W * y) 4)

set_option maxHeartbeats 8000000 in
set_option maxRecDepth 20000 in
theorem laplace_ok (W H : Nat) (h : Sd W H) (v : Nat → Nat) (A : Nat → Nat → Nat) (L : LapW W H v A) (g c : Nat) (w : World) (hv : FW w g (W * H) v) :
    Calls Try.prog 51 #[gV W H, .slice (some ⟨g, 0, none⟩) (W * H) c] w fun e w' => ∃ (g2 : Nat) (cur : Array Value), e = .returned (.slice (some ⟨g2, 0, none⟩) (W * H) (W * H)) ∧ w.heap.size ≤ g2 ∧ Has w' g2 28 cur ∧ CW cur (W * H) (fun i => A i 4) ∧ Below w.heap.size w w' := by
  have SL := sd_le W H h
  have IN := keep (ix_in W H)
  have IL := keep (in_lt W H)
  have IX := keep (fun u v => (ix_eq W H h u v).2)
  have ID := keep (fun u v a b c d w => xindex W H h u v a b c d w)
  have NB := keep (fun x y a b w => neighbours_ok W H h x y a b w)
  have MK := run_mkW (W * H) (by omega) (w.alloc (.cells #[.int .i64 W, .int .i64 H] 36))
  have HV := keep hv
  have HL := keep L
  have sW := h.1
  have sH := h.2
  generalize eN : W * H = n at *
  have G0 := keep ((Has.made w 36 #[.int .i64 W, .int .i64 H]).beside (.cells (Array.replicate n (.float .f32 0)) 28))
  have R0 := Has.made (w.alloc (.cells #[.int .i64 W, .int .i64 H] 36)) 28 (Array.replicate n (.float .f32 0))
  simp only [World.size_alloc] at R0
  have R0 := keep R0
  have B0 := keep (((Below.refl w.heap.size w).alloc (Nat.le_refl _) (.cells #[.int .i64 W, .int .i64 H] 36)).alloc (by simp) (.cells (Array.replicate n (.float .f32 0)) 28))
  have c0 := G0.out.cells
  clear h hv L
  unfold nbV at NB
  unfold gV at *
  have EN := keep eN
  clear eN
  go_enter Try.func51, Try.ntmps51
  go_wp2_with fail
  clear MK
  generalize (w.alloc (.cells #[.int .i64 W, .int .i64 H] 36)).alloc (.cells (Array.replicate n (.float .f32 0)) 28) = w0 at *
  clear c0
  go_loopw [17] (fun s wr => ∃ (y : Nat) (cur : Array Value), y ≤ H ∧ s = .int .i64 y ∧ Kept (Has wr (w.heap.size + 1) 28 cur) ∧ Kept (cur.size = n) ∧ Kept (CW cur (W * y) (fun i => A i 4)) ∧ Kept (Has wr w.heap.size 36 #[.int .i64 W, .int .i64 H]) ∧ Kept (Below w.heap.size w wr)) (fun s _ => H - (intOf s).toNat)
  case atStart => exact ⟨0, _, Nat.zero_le _, rfl, R0, keep (by simp), keep ⟨by simp, fun i hi => by simp at hi⟩, G0, B0⟩
  case round =>
    clear R0 G0 B0
    obtain ⟨y, cur, hy, rfl, hr, hs, hc, hg, hb⟩ := hrel
    by_cases hlt : y < H
    · have hlt' : (y : Int) < (H : Int) := by omega
      have cg := hg.out.cells
      go_wp2_with fail
      clear cg
      go_loopw [22] (fun s wx => ∃ (x : Nat) (cur : Array Value), x ≤ W ∧ s = .int .i64 x ∧ Kept (Has wx (w.heap.size + 1) 28 cur) ∧ Kept (cur.size = n) ∧ Kept (CW cur (W * y + x) (fun i => A i 4)) ∧ Kept (Has wx w.heap.size 36 #[.int .i64 W, .int .i64 H]) ∧ Kept (Below w.heap.size w wx)) (fun s _ => W - (intOf s).toNat)
      case atStart => exact ⟨0, cur, Nat.zero_le _, rfl, hr, hs, hc, hg, hb⟩
      case round =>
        clear hr hs hc hg hb
        obtain ⟨x, cur, hx, rfl, hr, hs, hc, hg, hb⟩ := hrel
        by_cases hlx : x < W
        · have hlx' : (x : Int) < (W : Int) := by omega
          have cg := hg.out.cells
          obtain ⟨f0, f1, f2, f3, f4⟩ := HL.out x y hlx hlt
          have nb := keep (NB.out x y (by omega) (by omega))
          have id := ID.out x y (by omega) (by omega) (by omega) (by omega)
          have kn := IL.out x y hlx hlt
          have hc' := hc.out
          rw [IN.out x y hlx hlt] at id
          rw [Nat.add_comm (W * y) x] at hc'
          have ek : W * y + (x + 1) = x + W * y + 1 := by omega
          generalize x + W * y = k at *
          have ID2 := keep id
          have b1 := IX.out ((x : Int) - 1) y
          have b2 := IX.out ((x : Int) + 1) y
          have b3 := IX.out x ((y : Int) - 1)
          have b4 := IX.out x ((y : Int) + 1)
          generalize ix W H ((x : Int) - 1) y = i1 at *
          generalize ix W H ((x : Int) + 1) y = i2 at *
          generalize ix W H x ((y : Int) - 1) = i3 at *
          generalize ix W H x ((y : Int) + 1) = i4 at *
          have HC := keep hc'
          have EK := keep ek
          have F0 := keep f0
          have FF := keep (show ∀ j, j < 4 → floatBits .sub .f32 (A k j) (v (if j = 0 then i1 else if j = 1 then i2 else if j = 2 then i3 else i4)) = some (A k (j + 1)) from fun j hj => by
            rcases j with _ | _ | _ | _ | j
            · exact f1
            · exact f2
            · exact f3
            · exact f4
            · omega)
          clear hc hc' id ek f0 f1 f2 f3 f4
          go_wp2_with fail
          refine (ID2.out _).mono ?_
          rintro e w1 ⟨rfl, hb1⟩
          have H1 := keep (hr.out.after hb1)
          have G1 := keep (hg.out.after hb1)
          have B1 := keep (hb.out.trans (hb1.mono hb.out.size))
          have z1 := (B1.out.cell (p := ⟨g, k, none⟩) HV.out.1).trans (HV.out.2 k kn)
          have f0 := zrun F0.out
          have kn' : (k : Int) < (n : Int) := by omega
          clear hr hg hb hb1 cg ID2 F0
          have cg := G1.out.cells
          go_wp2_with fail
          refine (nb.out _).mono ?_
          rintro e w2 ⟨rfl, hb2⟩
          have H2 := keep (H1.out.after hb2)
          have G2 := keep (G1.out.after hb2)
          have B2 := keep (B1.out.trans (hb2.mono B1.out.size))
          clear H1 G1 B1 hb2 cg nb z1 f0
          go_wp2_with fail
          go_loopw [38, 9] (fun s t wy => ∃ j : Nat, j ≤ 4 ∧ s = .int .i64 j ∧ t = .float .f32 (A k j) ∧ wy = w2) (fun s _ _ => 4 - (intOf s).toNat)
          case atStart => exact ⟨0, by omega, rfl, rfl, rfl⟩
          case round =>
            obtain ⟨j, hj, rfl, rfl, rfl⟩ := hrel
            have d1 : (i1 : Int) < (n : Int) := by omega
            have d2 : (i2 : Int) < (n : Int) := by omega
            have d3 : (i3 : Int) < (n : Int) := by omega
            have d4 : (i4 : Int) < (n : Int) := by omega
            have z1 := (B2.out.cell (p := ⟨g, i1, none⟩) HV.out.1).trans (HV.out.2 i1 b1)
            have z2 := (B2.out.cell (p := ⟨g, i2, none⟩) HV.out.1).trans (HV.out.2 i2 b2)
            have z3 := (B2.out.cell (p := ⟨g, i3, none⟩) HV.out.1).trans (HV.out.2 i3 b3)
            have z4 := (B2.out.cell (p := ⟨g, i4, none⟩) HV.out.1).trans (HV.out.2 i4 b4)
            have hks : j = 0 ∨ j = 1 ∨ j = 2 ∨ j = 3 ∨ j = 4 := by omega
            rcases hks with rfl | rfl | rfl | rfl | rfl
            · have f := zrun (FF.out 0 (by omega))
              rw [if_pos rfl] at f
              have ixf : ∀ w, (Instr.index 90 (.agg #[.int .i64 i1, .int .i64 i2, .int .i64 i3, .int .i64 i4]) (.int .i64 0)).run Try.prog w = .ok (.int .i64 i1) w := fun w => xrun_ix _ 0 _ (by omega) rfl w
              go_wp2_with fail
              go_roundw
              case rel => exact ⟨1, by omega, rfl, rfl, by trivial⟩
              case measure => simp [intOf]
            · have f := zrun (FF.out 1 (by omega))
              rw [if_neg (by omega), if_pos rfl] at f
              have ixf : ∀ w, (Instr.index 90 (.agg #[.int .i64 i1, .int .i64 i2, .int .i64 i3, .int .i64 i4]) (.int .i64 1)).run Try.prog w = .ok (.int .i64 i2) w := fun w => xrun_ix _ 1 _ (by omega) rfl w
              go_wp2_with fail
              go_roundw
              case rel => exact ⟨2, by omega, rfl, rfl, by trivial⟩
              case measure => simp [intOf]
            · have f := zrun (FF.out 2 (by omega))
              rw [if_neg (by omega), if_neg (by omega), if_pos rfl] at f
              have ixf : ∀ w, (Instr.index 90 (.agg #[.int .i64 i1, .int .i64 i2, .int .i64 i3, .int .i64 i4]) (.int .i64 2)).run Try.prog w = .ok (.int .i64 i3) w := fun w => xrun_ix _ 2 _ (by omega) rfl w
              go_wp2_with fail
              go_roundw
              case rel => exact ⟨3, by omega, rfl, rfl, by trivial⟩
              case measure => simp [intOf]
            · have f := zrun (FF.out 3 (by omega))
              rw [if_neg (by omega), if_neg (by omega), if_neg (by omega)] at f
              have ixf : ∀ w, (Instr.index 90 (.agg #[.int .i64 i1, .int .i64 i2, .int .i64 i3, .int .i64 i4]) (.int .i64 3)).run Try.prog w = .ok (.int .i64 i4) w := fun w => xrun_ix _ 3 _ (by omega) rfl w
              go_wp2_with fail
              go_roundw
              case rel => exact ⟨4, by omega, rfl, rfl, by trivial⟩
              case measure => simp [intOf]
            · have u1 := H2.out.free k
              have l1 := H2.out.in_heap
              obtain ⟨v1, c1⟩ : ∃ u, wr.cell? ⟨w.heap.size + 1, k, none⟩ = some u := ⟨_, (H2.out.cells k).trans (Array.getElem?_eq_getElem (by rw [hs.out]; exact kn))⟩
              clear z1 z2 z3 z4
              go_wp2_with fail
              go_roundw
              case rel => exact ⟨x + 1, _, by omega, by go_num, keep (H2.out.written k _), keep (by rw [Array.size_setIfInBounds]; exact hs.out), keep (by rw [EK.out]; exact HC.out.snoc (by rw [hs.out]; exact kn)), keep (G2.out.elsewhere (p := ⟨w.heap.size + 1, k, none⟩) (by show w.heap.size ≠ w.heap.size + 1; omega) _), keep (B2.out.setCell (p := ⟨w.heap.size + 1, k, none⟩) (by show w.heap.size ≤ w.heap.size + 1; omega) _)⟩
              case measure => simp [intOf]; omega
        · obtain rfl : x = W := by omega
          go_wp2_with fail
          go_roundw
          case rel => exact ⟨y + 1, cur, by omega, by go_num, hr, hs, keep (by rw [Nat.mul_succ]; exact hc.out), hg, hb⟩
          case measure => simp [intOf]; omega
    · obtain rfl : y = H := by omega
      go_wp2_with fail
      go_ret
      exact ⟨w.heap.size + 1, cur, rfl, by omega, hr.out, by have := hc.out; rw [EN.out] at this; exact this, hb.out⟩
end Go.Proofs.Ytmlocjcfcmifdaa
