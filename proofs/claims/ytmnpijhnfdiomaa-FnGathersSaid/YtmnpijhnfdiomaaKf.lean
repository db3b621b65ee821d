/- Contract: a field that is shifted around the edges. -/
import Derived.Test.YtmnpijhnfdiomaaKe
namespace Go.Proofs.Ytmnpijhnfdiomaa
open Go.RowKit Go.Sort Ieee
set_option linter.unusedSimpArgs false

/-- The shifted field, cell by cell. -/
def shiftF (W H : Nat) (X Y : Int) (fs : List Int) : List Int := (List.range (W * H)).map fun k => fs.getD (idx W H (((k % W : Nat) : Int) - X) (((k / W : Nat) : Int) - Y)).toNat 0
theorem shiftF_length (W H : Nat) (X Y : Int) (fs : List Int) : (shiftF W H X Y fs).length = W * H := by unfold shiftF; rw [List.length_map, List.length_range]
theorem shiftF_at (W H : Nat) (X Y : Int) (fs : List Int) (u v : Nat) (hu : u < W) (hv : v < H) : (shiftF W H X Y fs)[v * W + u]? = some (fs.getD (idx W H ((u : Int) - X) ((v : Int) - Y)).toNat 0) := by
  have hk : v * W + u < W * H := by
    have : (v + 1) * W ≤ H * W := Nat.mul_le_mul_right W hv
    rw [Nat.add_mul, Nat.one_mul] at this
    rw [Nat.mul_comm W H]
    omega
  unfold shiftF
  rw [List.getElem?_map, List.getElem?_range hk]
  have e1 : (v * W + u) % W = u := by rw [Nat.mul_comm, Nat.mul_add_mod]; exact Nat.mod_eq_of_lt hu
  have e2 : (v * W + u) / W = v := by rw [Nat.mul_comm, Nat.mul_add_div (by omega)]; rw [Nat.div_eq_of_lt hu]; omega
  simp only [Option.map_some, e1, e2]
theorem idx_in (W H u v : Nat) (hu : u < W) (hv : v < H) : idx W H (u : Int) (v : Int) = ((v * W + u : Nat) : Int) := by
  unfold idx
  rw [Int.emod_eq_of_lt (by omega) (by omega), Int.emod_eq_of_lt (by omega) (by omega), Int.natCast_add, Int.natCast_mul, Int.mul_comm]
  omega
theorem Small.shift {fs : List Int} {M : Nat} (h : Small fs M) (W H : Nat) (X Y : Int) : Small (shiftF W H X Y fs) M := by
  intro n hn
  obtain ⟨k, _, rfl⟩ := List.mem_map.1 hn
  exact h.at _

/-- Of the cells the first m are written. -/
def mixF (fs : List Int) (m : Nat) : List Int := fs.take m ++ List.replicate (fs.length - m) 0
theorem mixF_length (fs : List Int) (m : Nat) (h : m ≤ fs.length) : (mixF fs m).length = fs.length := by
  unfold mixF; rw [List.length_append, List.length_take, List.length_replicate]; omega
theorem mixF_step (fs : List Int) (m : Nat) (n : Int) (h : m < fs.length) (hn : fs[m]? = some n) : (mixF fs m).set m n = mixF fs (m + 1) := by
  unfold mixF
  obtain ⟨k, hk⟩ : ∃ k, fs.length - m = k + 1 := ⟨fs.length - m - 1, by omega⟩
  have ht : (fs.take m).length = m := by rw [List.length_take]; omega
  have hg : fs[m] = n := by rw [List.getElem?_eq_getElem h] at hn; injection hn
  rw [List.set_append_right _ _ (by omega), ht, Nat.sub_self, hk, List.replicate_succ, List.set_cons_zero, List.take_succ_eq_append_getElem h, hg, show fs.length - (m + 1) = k from by omega, List.append_assoc]
  rfl
theorem mixF_full (fs : List Int) : mixF fs fs.length = fs := by unfold mixF; simp
theorem mixF_zero (fs : List Int) : mixF fs 0 = List.replicate fs.length 0 := by unfold mixF; simp

theorem getD_at (fs : List Int) (c : Nat) (h : c < fs.length) : fs.getD c 0 = fs[c] := by rw [List.getD_eq_getElem?_getD, List.getElem?_eq_getElem h]; rfl

set_option maxHeartbeats 8000000 in
set_option maxRecDepth 20000 in
theorem ShiftField_ok (W H : Nat) (h : Sides W H) (X Y : Int) (hX : X.natAbs ≤ 4) (hY : Y.natAbs ≤ 4) (g : Nat) (fs : List Int) (hl : fs.length = W * H) (w : World) (hh : Has w g 33 (fCells 7 fs)) :
    Calls Try.prog 30 #[gridV W H, .slice (some ⟨g, 0, none⟩) (W * H) (W * H), .int .i64 X, .int .i64 Y] w fun e w' => ∃ g2 : Nat, e = .returned (.tuple #[.slice (some ⟨g2, 0, none⟩) (W * H) (W * H), .bool true]) ∧ Has w' g2 33 (fCells 7 (shiftF W H X Y fs)) ∧ Below w.heap.size w w' := by
  have IF := keep (fun c w => IsField_ok W H h (some ⟨g, 0, none⟩) c w)
  have W1 : Kept (∀ w, Calls Try.prog 50 #[.int .i64 X, .int .i64 (-16), .int .i64 16] w fun e w' => e = .returned (.bool true) ∧ w' = w) := keep (fun w => (within_any X (-16) 16 w).mono fun e w' ⟨he, hw⟩ => ⟨by rw [he]; congr 2; simp; omega, hw⟩)
  have W2 : Kept (∀ w, Calls Try.prog 50 #[.int .i64 Y, .int .i64 (-16), .int .i64 16] w fun e w' => e = .returned (.bool true) ∧ w' = w) := keep (fun w => (within_any Y (-16) 16 w).mono fun e w' ⟨he, hw⟩ => ⟨by rw [he]; congr 2; simp; omega, hw⟩)
  have IX := keep (fun x y a b c d w => index_ok W H h x y a b c d w)
  have IN := keep (fun x y => idx_nat W H h x y)
  have SL := size_le W H h
  have HS := keep h
  have HH := keep hh
  have LF := shiftF_length W H X Y fs
  have SA := keep (fun u v hu hv => shiftF_at W H X Y fs u v hu hv)
  have P := keep (Has.made w 25 #[.int .i64 W, .int .i64 H])
  have B0 := keep ((Below.refl w.heap.size w).alloc (Nat.le_refl _) (.cells #[.int .i64 W, .int .i64 H] 25))
  have HC := keep (Nat.mul_comm W H)
  have Z0 : List.replicate (W * H) 0 = mixF (shiftF W H X Y fs) 0 := by rw [mixF_zero, LF]
  clear hh h
  generalize hn : W * H = n at *
  have MK := keep (run_mkF n (by omega))
  rw [Z0] at MK
  generalize shiftF W H X Y fs = out at *
  clear Z0
  unfold gridV at *
  go_enter Try.func30, Try.ntmps30
  go_wp2_with fail
  refine (IF.out _ _).mono ?_
  rintro e w1 ⟨rfl, hb⟩
  have B1 := keep (B0.out.trans (hb.mono B0.out.size))
  have P1 := keep (P.out.after hb)
  clear hb B0 P IF
  go_wp2_with fail
  refine (W1.out _).mono ?_
  rintro e w' ⟨rfl, rfl⟩
  go_wp2_with fail
  refine (W2.out _).mono ?_
  rintro e w3 ⟨rfl, rfl⟩
  have mk := MK.out
  have H3 := HH.out.later B1.out HH.out.in_heap
  have lP := P1.out.in_heap
  have lg := H3.in_heap
  have P4 := keep (P1.out.beside (.cells (fCells 7 (mixF out 0)) 33))
  have p4 := P4.out.cells
  have H4 := keep (H3.beside (.cells (fCells 7 (mixF out 0)) 33))
  have F4 := keep (Has.made w3 33 (fCells 7 (mixF out 0)))
  have B4 := keep ((Below.refl w3.heap.size w3).alloc (Nat.le_refl _) (.cells (fCells 7 (mixF out 0)) 33))
  clear P1 H3 HH MK W1 W2
  go_wp2_with fail
  clear mk p4
  go_loopw [32] (fun s wr => ∃ j : Nat, j ≤ H ∧ s = .int .i64 j ∧ Kept (Has wr w3.heap.size 33 (fCells 7 (mixF out (j * W)))) ∧ Kept (Has wr g 33 (fCells 7 fs)) ∧ Kept (Has wr w.heap.size 25 #[.int .i64 W, .int .i64 H]) ∧ Kept (Below w3.heap.size w3 wr)) (fun s _ => H - (intOf s).toNat)
  case atStart => exact ⟨0, Nat.zero_le _, rfl, by rw [Nat.zero_mul]; exact F4, H4, P4, B4⟩
  case round =>
    clear F4 H4 P4 B4
    obtain ⟨j, hj, rfl, hF, hf, hP, hb⟩ := hrel
    by_cases hjl : j < H
    · have pc := hP.out.cells
      go_wp2_with fail
      clear pc
      go_loopw [37] (fun s wx => ∃ i : Nat, i ≤ W ∧ s = .int .i64 i ∧ Kept (Has wx w3.heap.size 33 (fCells 7 (mixF out (j * W + i)))) ∧ Kept (Has wx g 33 (fCells 7 fs)) ∧ Kept (Has wx w.heap.size 25 #[.int .i64 W, .int .i64 H]) ∧ Kept (Below w3.heap.size w3 wx)) (fun s _ => W - (intOf s).toNat)
      case atStart => exact ⟨0, Nat.zero_le _, rfl, hF, hf, hP, hb⟩
      case round =>
        clear hF hf hP hb
        obtain ⟨i, hi, rfl, hF, hf, hP, hb⟩ := hrel
        by_cases hil : i < W
        · have pc := hP.out.cells
          obtain ⟨⟨w4, w7⟩, h4, h7⟩ := HS.out
          have hm : j * W + i < n := by
            have : (j + 1) * W ≤ H * W := Nat.mul_le_mul_right W hjl
            rw [Nat.add_mul, Nat.one_mul] at this
            have := HC.out
            omega
          have I1 := keep (fun w => IX.out (i : Int) (j : Int) (by omega) (by omega) (by omega) (by omega) w)
          rw [idx_in W H i j hil hjl] at I1
          have I2 := keep (fun w => IX.out ((i : Int) - X) ((j : Int) - Y) (by omega) (by omega) (by omega) (by omega) w)
          obtain ⟨c2, e2, l2⟩ := IN.out ((i : Int) - X) ((j : Int) - Y)
          have sa := SA.out i j hil hjl
          rw [e2] at I2 sa
          rw [Int.toNat_natCast] at sa
          generalize hc1 : j * W + i = c1 at *
          have zf := fCells_at 7 fs c2 (by omega)
          rw [getD_at fs c2 (by omega)] at sa
          generalize fs[c2]'(by omega) = vv at *
          have MS := keep (mixF_step out c1 vv (by omega) sa)
          have ml := mixF_length out c1 (by omega)
          have z1 := fCells_at 7 (mixF out c1) c1 (by omega)
          generalize (mixF out c1)[c1]'(by omega) = old at *
          have NS := keep (fCells_set 7 (mixF out c1) c1 vv)
          have wx1 : IntKind.i64.wrap ((i : Int) - X) = (i : Int) - X := IntWalk.i64_in _ ⟨by omega, by omega⟩
          have wy1 : IntKind.i64.wrap ((j : Int) - Y) = (j : Int) - Y := IntWalk.i64_in _ ⟨by omega, by omega⟩
          have li1 : (c1 : Int) < (n : Int) := by omega
          have li2 : (c2 : Int) < (n : Int) := by omega
          have hgg : g ≠ w3.heap.size := by omega
          clear sa e2 pc ml
          go_wp2_with fail
          have hK : Has wr.drew w3.heap.size 33 (fCells 7 (mixF out c1)) := hF.out
          have hBW : Below w3.heap.size w3 wr.drew := Below.drew hb.out
          have kc := (hK.cells c1).trans z1
          have uc := hK.free c1
          have lG := hP.out.in_heap
          have lf := hf.out.in_heap
          have SOF := keep (fun (wz : World) (hg : wr.grownBy wz (some w3.heap.size)) => (⟨(World.cell?_of_block (a := ⟨w.heap.size, 0, none⟩) (hg.block w.heap.size lG (fun e => Nat.ne_of_lt lP (Option.some.inj e)))).trans (hP.out.cells 0), (World.cell?_of_block (a := ⟨w.heap.size, 1, none⟩) (hg.block w.heap.size lG (fun e => Nat.ne_of_lt lP (Option.some.inj e)))).trans (hP.out.cells 1), (World.cell?_of_block (a := ⟨g, c2, none⟩) (hg.block g lf (fun e => hgg (Option.some.inj e)))).trans ((hf.out.cells c2).trans zf), hg⟩ : wz.cell? ⟨w.heap.size, 0, none⟩ = some (.int .i64 W) ∧ wz.cell? ⟨w.heap.size, 1, none⟩ = some (.int .i64 H) ∧ wz.cell? ⟨g, c2, none⟩ = some (.float .f32 (wd single 7 vv)) ∧ wr.grownBy wz (some w3.heap.size)))
          have GOS := keep (fun (wz : World) (hS : wz.cell? ⟨w.heap.size, 0, none⟩ = some (.int .i64 W) ∧ wz.cell? ⟨w.heap.size, 1, none⟩ = some (.int .i64 H) ∧ wz.cell? ⟨g, c2, none⟩ = some (.float .f32 (wd single 7 vv)) ∧ wr.grownBy wz (some w3.heap.size)) => hS.2.2.2)
          go_region_held (fun wz => wz.cell? ⟨w.heap.size, 0, none⟩ = some (.int .i64 W) ∧ wz.cell? ⟨w.heap.size, 1, none⟩ = some (.int .i64 H) ∧ wz.cell? ⟨g, c2, none⟩ = some (.float .f32 (wd single 7 vv)) ∧ wr.grownBy wz (some w3.heap.size))
            (first
              | (exact SOF.out _ (gb_draw1 (World.grownBy.refl _ _)))
              | (exact SOF.out _ (gb_below (GOS.out _ (by assumption)) (by assumption) (GOS.out _ (by assumption)).size))
              | (exact SOF.out _ (gb_store (GOS.out _ (by assumption)) _ _)))
            (first
              | ((with_reducible refine (I1.out _).mono ?_); rintro e w5 ⟨rfl, hb5⟩; have hK := Has.after hK hb5; have kc := (hK.cells c1).trans z1; have uc := hK.free c1; have hBW := hBW.trans (hb5.mono hBW.size))
              | ((with_reducible refine (I2.out _).mono ?_); rintro e w6 ⟨rfl, hb6⟩; have hK := Has.after hK hb6; have kc := (hK.cells c1).trans z1; have uc := hK.free c1; have hBW := hBW.trans (hb6.mono hBW.size)))
          all_goals
            have hf2 := hf.out
            have hP2 := hP.out
            have gbw := gb_draw1 (World.grownBy.refl wr (some w3.heap.size))
            first
              | (have g6 := gb_below (gb_below gbw hb5 gbw.size) hb6 (gb_below gbw hb5 gbw.size).size
                 have F6 := keep (hf2.byG g6 (fun e => hgg (Option.some.inj e).symm))
                 have P6 := keep (hP2.byG g6 (fun e => Nat.ne_of_lt lP (Option.some.inj e).symm)))
              | (have g6 := gb_below (gb_below gbw hb6 gbw.size) hb5 (gb_below gbw hb6 gbw.size).size
                 have F6 := keep (hf2.byG g6 (fun e => hgg (Option.some.inj e).symm))
                 have P6 := keep (hP2.byG g6 (fun e => Nat.ne_of_lt lP (Option.some.inj e).symm)))
            have HK := keep hK
            have HB := keep hBW
            clear SOF GOS hK hBW kc uc hb5 hb6 hf2 hP2 hf hP hF hb gbw g6 I1 I2 IX IN SA
            go_wp2_with fail
            go_roundw
            case rel => exact ⟨i + 1, by omega, by go_num, keep (by
              rw [show j * W + (i + 1) = c1 + 1 by omega, ← MS.out, ← NS.out]
              exact HK.out.written c1 _), keep (F6.out.elsewhere (p := ⟨w3.heap.size, c1, none⟩) hgg _), keep (P6.out.elsewhere (p := ⟨w3.heap.size, c1, none⟩) (Nat.ne_of_lt lP) _), keep (HB.out.setCell (p := ⟨w3.heap.size, c1, none⟩) (Nat.le_refl _) _)⟩
            case measure => simp [intOf]; omega
        · obtain rfl : i = W := by omega
          have hF2 := hF.out
          rw [show j * i + i = (j + 1) * i by rw [Nat.add_mul, Nat.one_mul]] at hF2
          have HF := keep hF2
          have h7 := HS.out.2.2
          clear hF2
          go_wp2_with fail
          go_roundw
          case rel => exact ⟨j + 1, by omega, by go_num, HF, hf, hP, hb⟩
          case measure => simp [intOf]; omega
    · obtain rfl : j = H := by omega
      have hF2 := hF.out
      rw [← HC.out, ← LF, mixF_full] at hF2
      have HF := keep hF2
      clear hF2
      go_wp2_with fail
      go_ret2
      exact ⟨_, rfl, HF.out, B1.out.trans (hb.out.mono B1.out.size)⟩
end Go.Proofs.Ytmnpijhnfdiomaa
