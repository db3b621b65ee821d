/- Contract: the shifted field as the spec makes it. -/
import Derived.Test.YtnmdgbnophclnaaPc
import Derived.BigQuiet
namespace Go.Proofs.Ytnmdgbnophclnaa
open Go.RowKit Go.Sort Ieee
set_option linter.unusedSimpArgs false

def fRow (k : Nat) (fs : List Int) : List Value := fs.map fun n => Value.float .f32 (wd single k n)
theorem fRow_append (k : Nat) (a b : List Int) : fRow k (a ++ b) = fRow k a ++ fRow k b := List.map_append ..
theorem fRow_length (k : Nat) (fs : List Int) : (fRow k fs).length = fs.length := List.length_map _
theorem fRow_at (k : Nat) (fs : List Int) (i : Nat) (h : i < fs.length) : (fRow k fs)[i]? = some (.float .f32 (wd single k fs[i])) := by
  unfold fRow
  rw [List.getElem?_map, List.getElem?_eq_getElem h]
  rfl
theorem has_oneV (w : World) (v : Value) (t : TypeId) : Has (w.alloc (.cells #[v] t)) w.heap.size t #[v] := Has.made w t #[v]

theorem l00In_anyQ (n lo hi : Int) (w : World) : Calls Try.prog 63 #[.int .i64 n, .int .i64 lo, .int .i64 hi] w fun e w' => e = .returned (.bool (decide (lo ≤ n) && decide (n ≤ hi))) ∧ w' = w := by
  by_cases h : lo ≤ n
  all_goals
    go_enter Try.func63, Try.ntmps63
    go_wp2
    go_ret
    exact ⟨by first | (simp [h]; done) | (simp; omega), rfl⟩

set_option maxHeartbeats 1000000 in
theorem l02Is_side (W H : Nat) (h : Sides W H) (g : Nat) (w : World) (c0 : w.cell? ⟨g, 0, none⟩ = some (.int .i64 W)) (c1 : w.cell? ⟨g, 1, none⟩ = some (.int .i64 H)) : Calls Try.prog 105 #[.pointer (some ⟨g, 0, none⟩)] w fun e w' => e = .returned (.bool true) ∧ w' = w := by
  have A := fun w => l00In_anyQ W 4 16 w
  have B := fun w => l00In_anyQ H 4 16 w
  obtain ⟨⟨h1, h2⟩, h3, h4⟩ := h
  rw [decide_eq_true (show (4 : Int) ≤ W by omega), decide_eq_true (show (W : Int) ≤ 16 by omega)] at A
  rw [decide_eq_true (show (4 : Int) ≤ H by omega), decide_eq_true (show (H : Int) ≤ 16 by omega)] at B
  have A := keep A
  have B := keep B
  go_enter Try.func105, Try.ntmps105
  go_wp2_with fail
  refine (A.out _).mono ?_
  rintro e w' ⟨rfl, rfl⟩
  go_wp2_with fail
  refine (B.out _).mono ?_
  rintro e w' ⟨rfl, rfl⟩
  go_wp2_with fail
  go_ret
  exact ⟨rfl, rfl⟩

set_option maxHeartbeats 2000000 in
theorem l02Field_side (W H : Nat) (h : Sides W H) (g : Nat) (a : Option Addr) (c : Nat) (w : World) (c0 : w.cell? ⟨g, 0, none⟩ = some (.int .i64 W)) (c1 : w.cell? ⟨g, 1, none⟩ = some (.int .i64 H)) : Calls Try.prog 62 #[.pointer (some ⟨g, 0, none⟩), .slice a (W * H) c] w fun e w' => e = .returned (.bool true) ∧ ∃ m, w' = w.drewN m := by
  have L := keep (fun w c0 c1 => l02Is_side W H h g w c0 c1)
  have hw : IntKind.i64.wrap ((W : Int) * (H : Int)) = ((W * H : Nat) : Int) := by
    have := size_le W H h
    rw [← Int.natCast_mul]
    exact IntWalk.i64_in _ ⟨by omega, by omega⟩
  clear h
  generalize W * H = n at *
  have hq : ((n : Int) == (n : Int)) = true := by simp
  go_enter Try.func62, Try.ntmps62
  go_wp2_with fail
  go_quiet (first | (go_at_call 105; exact Calls.quiet_of_same (L.out _ (by first | exact c0 | (simp; assumption)) (by first | exact c1 | (simp; assumption)))))
  go_wp2_with fail
  go_ret
  exact ⟨rfl, _, rfl⟩

theorem shiftF_take (W H : Nat) (X Y : Int) (fs : List Int) (u v : Nat) (hu : u < W) (hv : v < H) : (shiftF W H X Y fs).take (v * W + u + 1) = (shiftF W H X Y fs).take (v * W + u) ++ [fs.getD (idx W H ((u : Int) - X) ((v : Int) - Y)).toNat 0] := by
  have e := shiftF_at W H X Y fs u v hu hv
  rw [List.take_add_one, e]
  rfl

set_option maxHeartbeats 8000000 in
set_option maxRecDepth 20000 in
theorem SpecShift_ok (W H : Nat) (h : Sides W H) (X Y : Int) (hX : X.natAbs ≤ 4) (hY : Y.natAbs ≤ 4) (g : Nat) (fs : List Int) (hl : fs.length = W * H) (w : World) (hh : Has w g 27 (fCells 8 fs)) :
    Calls Try.prog 20 #[gridV W H, .slice (some ⟨g, 0, none⟩) (W * H) (W * H), .int .i64 X, .int .i64 Y] w fun e w' => ∃ v', e = .returned (.tuple #[v', .bool true]) ∧ w'.ownsRow w.heap.size 27 1 v' (W * H) (fRow 8 (shiftF W H X Y fs)) ∧ Below w.heap.size w w' := by
  have LF := keep (fun c0 c1 => l02Field_side W H h w.heap.size (some ⟨g, 0, none⟩) (W * H) (w.alloc (.cells #[.int .i64 W, .int .i64 H] 25)) c0 c1)
  have W1 : Kept (∀ w, Calls Try.prog 63 #[.int .i64 X, .int .i64 (-16), .int .i64 16] w fun e w' => e = .returned (.bool true) ∧ w' = w) := keep (fun w => (l00In_anyQ X (-16) 16 w).mono fun e w' ⟨he, hw⟩ => ⟨by rw [he]; congr 2; simp; omega, hw⟩)
  have W2 : Kept (∀ w, Calls Try.prog 63 #[.int .i64 Y, .int .i64 (-16), .int .i64 16] w fun e w' => e = .returned (.bool true) ∧ w' = w) := keep (fun w => (l00In_anyQ Y (-16) 16 w).mono fun e w' ⟨he, hw⟩ => ⟨by rw [he]; congr 2; simp; omega, hw⟩)
  have IN := keep (fun x y => idx_nat W H h x y)
  have SL := size_le W H h
  have HS := keep h
  have TK := keep (fun u v hu hv => shiftF_take W H X Y fs u v hu hv)
  have LN := shiftF_length W H X Y fs
  have P := keep (Has.made w 25 #[.int .i64 W, .int .i64 H])
  have B0 := keep ((Below.refl w.heap.size w).alloc (Nat.le_refl _) (.cells #[.int .i64 W, .int .i64 H] 25))
  have H0 := keep (hh.beside (.cells #[.int .i64 W, .int .i64 H] 25))
  have HC := keep (Nat.mul_comm W H)
  have lg0 := hh.in_heap
  have LF1 := LF.out (P.out.cells 0) (P.out.cells 1)
  have LF := keep LF1
  obtain ⟨i0, hi0, hz0, hz1, hz2⟩ := info_parts infoF32
  have HI := keep hi0
  have HZ0 := keep hz0
  have HZ1 := keep hz1
  have HZ2 := keep hz2
  clear hh h LF1 hi0 hz0 hz1 hz2
  generalize hn : W * H = n at *
  generalize shiftF W H X Y fs = out at *
  unfold gridV at *
  go_enter Try.func20, Try.ntmps20
  go_wp2_with fail
  refine LF.out.mono ?_
  rintro e w1 ⟨rfl, m1, rfl⟩
  go_wp2_with fail
  refine (W1.out _).mono ?_
  rintro e wz ⟨rfl, hwz⟩
  subst hwz
  go_wp2_with fail
  refine (W2.out _).mono ?_
  rintro e wz ⟨rfl, hwz⟩
  subst hwz
  have P1 := keep ((P.out.draws m1).beside (.cells #[] 27))
  have H1 := keep ((H0.out.draws m1).beside (.cells #[] 27))
  have B1 := keep ((Below.drewN_of B0.out m1).alloc (Below.drewN_of B0.out m1).size (.cells #[] 27))
  have R1 := keep (Has.made ((w.alloc (.cells #[.int .i64 W, .int .i64 H] 25)).drewN m1) 27 #[])
  have zs : ((w.alloc (.cells #[.int .i64 W, .int .i64 H] 25)).drewN m1).heap.size = w.heap.size + 1 := World.size_alloc ..
  rw [zs] at R1
  clear LF W1 W2 P H0 B0
  generalize (w.alloc (.cells #[.int .i64 W, .int .i64 H] 25)).drewN m1 = w2 at *
  go_wp2_with fail
  go_loopw [11, 10] (fun s t wr => ∃ (j : Nat) (A : Option Addr) (cp : Nat), j ≤ H ∧ s = .int .i64 j ∧ t = .slice A (j * W) cp ∧ Kept (wr.ownsRow (w.heap.size + 1) 27 1 (.slice A (j * W) cp) (j * W) (fRow 8 (out.take (j * W)))) ∧ Kept (Has wr g 27 (fCells 8 fs)) ∧ Kept (Has wr w.heap.size 25 #[.int .i64 W, .int .i64 H]) ∧ Kept (Below w.heap.size w wr)) (fun s _ _ => H - (intOf s).toNat)
  case atStart => exact ⟨0, _, _, Nat.zero_le _, rfl, by rw [Nat.zero_mul], keep (by
    rw [Nat.zero_mul]
    exact ⟨rfl, .inr ⟨w.heap.size + 1, 0, #[], rfl, by omega, R1.out, Nat.le_refl _, by simp [maxLen], rfl, rfl⟩⟩), H1, P1, B1⟩
  case round =>
    clear P1 H1 R1 B1
    obtain ⟨j, A, cp, hj, rfl, rfl, hR, hf, hP, hb⟩ := hrel
    by_cases hjl : j < H
    · have pc := hP.out.cells
      go_wp2_with fail
      clear pc
      go_loopw [12, 10] (fun s t wx => ∃ (i : Nat) (A : Option Addr) (cp : Nat), i ≤ W ∧ s = .int .i64 i ∧ t = .slice A (j * W + i) cp ∧ Kept (wx.ownsRow (w.heap.size + 1) 27 1 (.slice A (j * W + i) cp) (j * W + i) (fRow 8 (out.take (j * W + i)))) ∧ Kept (Has wx g 27 (fCells 8 fs)) ∧ Kept (Has wx w.heap.size 25 #[.int .i64 W, .int .i64 H]) ∧ Kept (Below w.heap.size w wx)) (fun s _ _ => W - (intOf s).toNat)
      case atStart => exact ⟨0, _, _, Nat.zero_le _, rfl, rfl, hR, hf, hP, hb⟩
      case round =>
        clear hR hf hP hb
        obtain ⟨i, A, cp, hi, rfl, rfl, hR, hf, hP, hb⟩ := hrel
        by_cases hil : i < W
        · have pc := hP.out.cells
          obtain ⟨⟨w4, w7⟩, h4, h7⟩ := HS.out
          have hm : j * W + i < n := by
            have : (j + 1) * W ≤ H * W := Nat.mul_le_mul_right W hjl
            rw [Nat.add_mul, Nat.one_mul] at this
            have := HC.out
            omega
          have tk := TK.out i j hil hjl
          obtain ⟨c2, e2, l2⟩ := IN.out ((i : Int) - X) ((j : Int) - Y)
          rw [e2, Int.toNat_natCast] at tk
          rw [getD_at fs c2 (by omega)] at tk
          have zf := (hf.out.cells c2).trans (fCells_at 8 fs c2 (by omega))
          unfold idx at e2
          have p0 := Int.emod_nonneg ((i : Int) - X) (show (W : Int) ≠ 0 by omega)
          have p1 := Int.emod_lt_of_pos ((i : Int) - X) (show (0 : Int) < (W : Int) by omega)
          have q0 := Int.emod_nonneg ((j : Int) - Y) (show (H : Int) ≠ 0 by omega)
          have q1 := Int.emod_lt_of_pos ((j : Int) - Y) (show (0 : Int) < (H : Int) by omega)
          have t1 : Int.tmod ((i : Int) - X + 64 * (W : Int)) (W : Int) = ((i : Int) - X) % (W : Int) := by
            rw [Int.tmod_eq_emod_of_nonneg (by omega), Int.mul_comm 64, Int.add_mul_emod_self_left]
          have t2 : Int.tmod ((j : Int) - Y + 64 * (H : Int)) (H : Int) = ((j : Int) - Y) % (H : Int) := by
            rw [Int.tmod_eq_emod_of_nonneg (by omega), Int.mul_comm 64, Int.add_mul_emod_self_left]
          generalize ((i : Int) - X) % (W : Int) = p at *
          generalize ((j : Int) - Y) % (H : Int) = q at *
          have wq : (W : Int) * q ≤ 7 * 7 := Int.mul_le_mul (by omega) (by omega) q0 (by omega)
          have wq0 : 0 ≤ (W : Int) * q := Int.mul_nonneg (by omega) q0
          have r1 : IntKind.i64.wrap ((i : Int) - X) = (i : Int) - X := IntWalk.i64_in _ ⟨by omega, by omega⟩
          have r2 : IntKind.i64.wrap (64 * (W : Int)) = 64 * (W : Int) := IntWalk.i64_in _ ⟨by omega, by omega⟩
          have r3 : IntKind.i64.wrap ((i : Int) - X + 64 * (W : Int)) = (i : Int) - X + 64 * (W : Int) := IntWalk.i64_in _ ⟨by omega, by omega⟩
          have r4 : IntKind.i64.wrap p = p := IntWalk.i64_in _ ⟨by omega, by omega⟩
          have s1 : IntKind.i64.wrap ((j : Int) - Y) = (j : Int) - Y := IntWalk.i64_in _ ⟨by omega, by omega⟩
          have s2 : IntKind.i64.wrap (64 * (H : Int)) = 64 * (H : Int) := IntWalk.i64_in _ ⟨by omega, by omega⟩
          have s3 : IntKind.i64.wrap ((j : Int) - Y + 64 * (H : Int)) = (j : Int) - Y + 64 * (H : Int) := IntWalk.i64_in _ ⟨by omega, by omega⟩
          have s4 : IntKind.i64.wrap q = q := IntWalk.i64_in _ ⟨by omega, by omega⟩
          have u1 : IntKind.i64.wrap ((W : Int) * q) = (W : Int) * q := IntWalk.i64_in _ ⟨by omega, by omega⟩
          have u2 : IntKind.i64.wrap (p + (W : Int) * q) = (c2 : Int) := by rw [← e2]; exact IntWalk.i64_in _ ⟨by omega, by omega⟩
          have hw0 : ¬ ((W : Int) = 0) := by omega
          have hh0 : ¬ ((H : Int) = 0) := by omega
          have li : (c2 : Int) < (n : Int) := by omega
          have TK1 := keep tk
          have zc := out.length_take_of_le (show j * W + i ≤ out.length by omega)
          have O3 := hR
          have K1 := hP
          have K2 := hf
          have K3 := hb
          have lP := hP.out.in_heap
          have lF := hf.out.in_heap
          generalize fs[c2]'(by omega) = vv at *
          clear tk e2 p0 p1 q0 q1 wq wq0 hR hP hf hb IN TK
          go_wp2_with (at_builtin; go_loud (refine wpList_append_own_at _ rfl _ _ 43 rfl (w.heap.size + 1) 27 i0 _ 1 4 Try.underlying43 HI.out HZ0.out HZ1.out HZ2.out rfl (by decide) (.slice A (j * W + i) cp) (j * W + i) _ rfl (O3.out.alloc _) ⟨wr.heap.size, 0, none⟩ 1 1 [.float .f32 (wd single 8 vv)] rfl rfl ?c1 ?c2 ?c3 ?c4 ?c5 ?_))
          case c1 =>
            intro i u hi
            rw [Addr.add_lit, Nat.zero_add]
            have e := (has_oneV wr (.float .f32 (wd single 8 vv)) 27).cells i
            rw [e]
            simpa using hi
          case c2 =>
            intro u hu
            rw [List.mem_singleton.1 hu]; rfl
          case c3 => unfold maxLen; omega
          case c4 => omega
          case c5 => first | omega | (simp only [World.size_alloc]; omega)
          intro v' w5 hown' hgrow _ _
          obtain ⟨g', cap', rfl, hB', hlt'⟩ := hown'.form (by omega)
          have hL := O3.out.lt
          have bX : Below (w.heap.size + 1) _ w5 := (Below.refl (w.heap.size + 1) _).grown hgrow (by simp only [World.size_alloc]; omega) (fun b e => (hL b e).1)
          have P6 := keep ((K1.out.beside _).later bX (by omega))
          have F6 := keep ((K2.out.beside _).later bX (by omega))
          have B6 := keep ((K3.out.alloc (by have := K3.out.size; omega) _).trans (bX.mono (by omega)))
          have OW := keep hown'
          clear hown' hgrow bX hL pc zf t1 t2 r1 r2 r3 r4 s1 s2 s3 s4 u1 u2 hw0 hh0 li
          go_wp2_with fail
          go_roundw
          case rel => exact ⟨i + 1, _, _, by omega, by go_num, rfl, keep (by
              have e := OW.out
              show World.ownsRow _ (w.heap.size + 1) _ _ _ (j * W + i + 1) (fRow 8 (out.take (j * W + i + 1)))
              rw [TK1.out, fRow_append]
              exact e), F6, P6, B6⟩
          case measure => simp [intOf]; omega
        · obtain rfl : i = W := by omega
          have pc := hP.out.cells
          obtain ⟨_, _, h7⟩ := HS.out
          have hjw : j * i + i = (j + 1) * i := by rw [Nat.add_mul, Nat.one_mul]
          rw [hjw] at hR ⊢
          go_wp2_with fail
          go_roundw
          case rel => exact ⟨j + 1, _, _, by omega, by go_num, rfl, hR, hf, hP, hb⟩
          case measure => simp [intOf]; omega
    · obtain rfl : j = H := by omega
      have pc := hP.out.cells
      have e := HC.out
      rw [← e] at hR ⊢
      rw [List.take_of_length_le (by omega)] at hR
      have R9 := keep (own_base (B' := w.heap.size) hR.out (by omega))
      go_wp2_with fail
      go_ret2
      exact ⟨_, rfl, R9.out, hb.out⟩
end Go.Proofs.Ytnmdgbnophclnaa
