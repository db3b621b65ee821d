/- Contracts: momentum, temperature and energy of two streams. -/
import Derived.Test.YtnmdgbnophclnaaPi
import Derived.Test.YtnmdgbnophclnaaIc
import Derived.Deep.RegionLaw
import Derived.Deep.AppendLies
namespace Go.Proofs.Ytnmdgbnophclnaa
open Go.RowKit Go.Sort Ieee
set_option linter.unusedSimpArgs false

theorem ts_form {w : World} {B W H n k : Nat} {v : Value} (h : RowP w B v (tsL W H n k)) :
    ∃ A c, v = .slice A k c ∧ ∀ i, i < k → ∃ g, A = some ⟨g, 0, none⟩ ∧ g < w.heap.size ∧ w.cell? ⟨g, i * 4, none⟩ = some (.complex .f32 (tsX W n i) (tsY H)) ∧ w.cell? ⟨g, i * 4 + 1, none⟩ = some (.complex .f32 (tsU i) 0) ∧ w.cell? ⟨g, i * 4 + 2, none⟩ = some (.float .f32 3212836864) ∧ w.cell? ⟨g, i * 4 + 3, none⟩ = some (.float .f32 1065353216) := by
  obtain ⟨A, c, e, hA⟩ := own_form h
  rw [tsL_length] at e hA
  refine ⟨A, c, e, fun i hi => ?_⟩
  obtain ⟨g, rfl, hg, hc⟩ := hA (by omega)
  have hi' : i < (tsL W H n k).length := by rw [tsL_length]; exact hi
  have he : (tsL W H n k)[i] = tsP W H n i := by simp [tsL]
  have hp : (tsP W H n i).cells = [.complex .f32 (tsX W n i) (tsY H), .complex .f32 (tsU i) 0, .float .f32 3212836864, .float .f32 1065353216] := by unfold PD.cells tsP; rfl
  have h4 : ∀ j u, j < 4 → (tsP W H n i).cells[j]? = some u → w.cell? ⟨g, i * 4 + j, none⟩ = some u := fun j u hj hu => hc _ _ (by rw [psCells_at _ i hi' j hj, he]; exact hu)
  exact ⟨g, rfl, hg, h4 0 _ (by omega) (by rw [hp]; rfl), h4 1 _ (by omega) (by rw [hp]; rfl), h4 2 _ (by omega) (by rw [hp]; rfl), h4 3 _ (by omega) (by rw [hp]; rfl)⟩

/-- The sum of the first speeds. -/
def tsS (k : Nat) : Nat := if k % 2 = 1 then 1056964608 else 0
theorem ts_step (k : Nat) : floatBits .add .f32 (tsS k) (tsU k) = some (tsS (k + 1)) ∧ floatBits .mul .f32 (tsU k) 1065353216 = some (tsU k) ∧ floatBits .sub .f32 (tsU k) 0 = some (tsU k) := by
  rcases Nat.mod_two_eq_zero_or_one k with h | h
  · have e1 : tsS k = 0 := by unfold tsS; rw [if_neg (by omega)]
    have e2 : tsU k = 1056964608 := by unfold tsU; rw [if_neg (by omega)]
    have e3 : tsS (k + 1) = 1056964608 := by unfold tsS; rw [if_pos (by omega)]
    rw [e1, e2, e3]
    decide +kernel
  · have e1 : tsS k = 1056964608 := by unfold tsS; rw [if_pos (by omega)]
    have e2 : tsU k = Op.negFloat .f32 1056964608 := by unfold tsU; rw [if_pos (by omega)]
    have e3 : tsS (k + 1) = 0 := by unfold tsS; rw [if_neg (by omega)]
    rw [e1, e2, e3]
    decide +kernel
theorem ts_zero : floatBits .add .f32 0 0 = some 0 ∧ floatBits .mul .f32 0 1065353216 = some 0 ∧ floatBits .sub .f32 0 0 = some 0 := by decide +kernel
theorem tsS_even (c : Nat) : tsS (2 * c) = 0 := by unfold tsS; rw [if_neg (by omega)]
def tsD (k : Nat) : Nat := if k % 2 = 1 then 13826050856027422720 else 4602678819172646912
theorem ts_square (k : Nat) : floatToFloatBits .f32 (tsU k) .f64 = some (tsD k) ∧ floatBits .mul .f64 (tsD k) (tsD k) = some 4598175219545276416 := by
  rcases Nat.mod_two_eq_zero_or_one k with h | h
  · have e2 : tsU k = 1056964608 := by unfold tsU; rw [if_neg (by omega)]
    have e3 : tsD k = 4602678819172646912 := by unfold tsD; rw [if_neg (by omega)]
    rw [e2, e3]
    decide +kernel
  · have e2 : tsU k = Op.negFloat .f32 1056964608 := by unfold tsU; rw [if_pos (by omega)]
    have e3 : tsD k = 13826050856027422720 := by unfold tsD; rw [if_pos (by omega)]
    rw [e2, e3]
    decide +kernel
theorem ts_half : floatToFloatBits .f32 0 .f64 = some 0 ∧ floatBits .mul .f64 0 0 = some 0 ∧ floatBits .add .f64 4598175219545276416 0 = some 4598175219545276416 ∧ floatToFloatBits .f64 4598175219545276416 .f32 = some 1048576000 := by decide +kernel
theorem ts_quart : wd single 2 1 = 1048576000 ∧ wd single 3 1 = 1040187392 ∧ floatBits .mul .f32 1056964608 1065353216 = some 1056964608 ∧ floatBits .mul .f32 1056964608 1048576000 = some 1040187392 := by decide +kernel
theorem ts_mean : ∀ c : Fin 8, floatBits .quo .f32 0 (floatOfInt .f32 ((2 * (c.val + 1) : Nat) : Int)) = some 0 ∧ floatBits .quo .f32 (wd single 2 ((2 * (c.val + 1) : Nat) : Int)) (floatOfInt .f32 ((2 * (c.val + 1) : Nat) : Int)) = some 1048576000 ∧ floatBits .mul .f32 1040187392 (floatOfInt .f32 ((2 * (c.val + 1) : Nat) : Int)) = some (wd single 3 ((2 * (c.val + 1) : Nat) : Int)) := by decide +kernel
theorem ts_means (c : Nat) (hc : 1 ≤ c ∧ c ≤ 8) : floatBits .quo .f32 0 (floatOfInt .f32 ((2 * c : Nat) : Int)) = some 0 ∧ floatBits .quo .f32 (wd single 2 ((2 * c : Nat) : Int)) (floatOfInt .f32 ((2 * c : Nat) : Int)) = some 1048576000 ∧ floatBits .mul .f32 1040187392 (floatOfInt .f32 ((2 * c : Nat) : Int)) = some (wd single 3 ((2 * c : Nat) : Int)) := by
  have h := ts_mean ⟨c - 1, by omega⟩
  simp only [show c - 1 + 1 = c by omega] at h
  exact h

set_option maxHeartbeats 1000000 in
theorem PowerOf_ts (k : Nat) (w : World) : Calls Try.prog 68 #[.complex .f32 (tsU k) 0] w fun e w' => e = .returned (.float .f32 1048576000) ∧ w' = w := by
  have PW := keep (fun w => power_any (tsU k) 0 (tsD k) 0 4598175219545276416 0 4598175219545276416 (ts_square k).1 ts_half.1 (ts_square k).2 ts_half.2.1 ts_half.2.2.1 w)
  have f := run_conv64 4598175219545276416 1048576000 ts_half.2.2.2
  go_enter Try.func68, Try.ntmps68
  go_wp2_with fail
  refine (PW.out _).mono ?_
  rintro e w' ⟨rfl, rfl⟩
  go_wp2_with fail
  go_ret
  exact ⟨rfl, rfl⟩
set_option maxHeartbeats 1000000 in
theorem less_any (a b c d r s : Nat) (h1 : floatBits .sub .f32 a c = some r) (h2 : floatBits .sub .f32 b d = some s) (w : World) : Calls Try.prog 69 #[.complex .f32 a b, .complex .f32 c d] w fun e w' => e = .returned (.complex .f32 r s) ∧ w' = w := by
  have f1 := frun h1
  have f2 := frun h2
  clear h1 h2
  go_enter Try.func69, Try.ntmps69
  go_wp2_with fail
  go_ret
  exact ⟨rfl, rfl⟩

set_option maxHeartbeats 2000000 in
set_option maxRecDepth 20000 in
theorem Momentum_ts (W H c : Nat) (h : Sides W H) (hc : 1 ≤ c ∧ c ≤ 8) (B : Nat) (v : Value) (w : World) (hown : RowP w B v (tsL W H (2 * c) (2 * c))) :
    Calls Try.prog 66 #[v] w fun e w' => e = .returned (.tuple #[.complex .f32 0 0, .bool true]) ∧ Below w.heap.size w w' := by
  have AP := keep (AreParticles_ok B v (tsL W H (2 * c) (2 * c)) w hown (tsL_ok W H c (2 * c) h hc (by omega)) (by rw [tsL_length]; omega))
  obtain ⟨A, cp, rfl, hA⟩ := ts_form hown
  have HA := keep hA
  have TE := keep (tsS_even c)
  have z0 : tsS 0 = 0 := rfl
  have hn : 2 * c ≤ 16 := by omega
  clear hown hA h hc
  generalize 2 * c = n at *
  go_enter Try.func66, Try.ntmps66
  go_wp2_with fail
  refine AP.out.mono ?_
  rintro e w1 ⟨rfl, hb⟩
  have B1 := keep hb
  clear hb
  go_wp2_with fail
  go_loopw [12, 4] (fun s z wr => ∃ (i : Nat), i ≤ n ∧ s = .int .i64 i ∧ z = .complex .f32 (tsS i) 0 ∧ Kept (Below w.heap.size w wr)) (fun s _ _ => n - (intOf s).toNat)
  case atStart => exact ⟨0, Nat.zero_le _, rfl, by rw [z0], B1⟩
  case round =>
    clear AP B1 z0
    obtain ⟨i, hi, rfl, rfl, hb⟩ := hrel
    by_cases hlt : i < n
    · obtain ⟨g, rfl, hg, c0, c1, c2, c3⟩ := HA.out i hlt
      have d0 := (hb.out.cell (p := ⟨g, i * 4, none⟩) hg).trans c0
      have d1 := (hb.out.cell (p := ⟨g, i * 4 + 1, none⟩) hg).trans c1
      have d2 := (hb.out.cell (p := ⟨g, i * 4 + 2, none⟩) hg).trans c2
      have d3 := (hb.out.cell (p := ⟨g, i * 4 + 3, none⟩) hg).trans c3
      have SC := keep (fun w => ScaleComplex_any (tsU i) 0 1065353216 (tsU i) 0 (ts_step i).2.1 ts_zero.2.1 w)
      have PL := keep (fun w => plus_any (tsS i) 0 (tsU i) 0 _ _ (ts_step i).1 ts_zero.1 w)
      have hsz := hb.out.size
      clear c0 c1 c2 c3
      go_wp2_with fail
      refine (SC.out _).mono ?_
      rintro e w' ⟨rfl, rfl⟩
      go_wp2_with fail
      refine (PL.out _).mono ?_
      rintro e w' ⟨rfl, rfl⟩
      go_wp2_with fail
      go_roundw
      case rel => exact ⟨i + 1, by omega, by go_num, rfl, keep (hb.out.trans (by go_grown))⟩
      case measure => simp [intOf]; omega
    · obtain rfl : i = n := by omega
      rw [TE.out]
      go_wp2_with fail
      go_ret2
      exact ⟨rfl, hb.out⟩

set_option maxHeartbeats 2000000 in
set_option maxRecDepth 20000 in
theorem CloudMomentum_ts (W H c m b : Nat) (hc : 1 ≤ c ∧ c ≤ 8) (h : CloudPD W H (tsL W H (2 * c) (2 * c)) m b) (B : Nat) (v : Value) (w : World) (hown : RowP w B v (tsL W H (2 * c) (2 * c))) :
    Calls Try.prog 24 #[cloudV W H v m b] w fun e w' => e = .returned (.tuple #[.complex .f32 0 0, .bool true]) ∧ Below w.heap.size w w' := by
  have VC := keep (fun w h' => ValidCloudP_ok W H (tsL W H (2 * c) (2 * c)) m b h B v w h')
  have MO := keep (fun w h' => Momentum_ts W H c h.sides hc B v w h')
  have P := keep (Has.made w 29 #[.int .i64 W, .int .i64 H, v, .float .f32 m, .float .f32 b])
  have B0 := keep ((Below.refl w.heap.size w).alloc (Nat.le_refl _) (.cells #[.int .i64 W, .int .i64 H, v, .float .f32 m, .float .f32 b] 29))
  have HO := keep (owns_below hown B0.out)
  obtain ⟨A, cp, rfl, _⟩ := ts_form hown
  clear hown h hc
  unfold cloudV at *
  go_enter Try.func24, Try.ntmps24
  have cg := P.out.cells
  go_wp2_with fail
  refine (VC.out _ HO.out).mono ?_
  rintro e w1 ⟨rfl, hb⟩
  have p1 := P.out.after hb
  clear cg
  have cg := p1.cells
  have O1 := keep (owns_below HO.out hb)
  have B1 := keep (B0.out.trans (hb.mono B0.out.size))
  clear hb P HO B0 VC
  go_wp2_with fail
  refine (MO.out _ O1.out).mono ?_
  rintro e w2 ⟨rfl, hb⟩
  have B2 := keep (B1.out.trans (hb.mono B1.out.size))
  go_wp2_with fail
  go_ret2
  exact ⟨rfl, B2.out⟩

set_option maxHeartbeats 4000000 in
set_option maxRecDepth 20000 in
theorem Temperature_ts (W H c m b : Nat) (hc : 1 ≤ c ∧ c ≤ 8) (h : CloudPD W H (tsL W H (2 * c) (2 * c)) m b) (B : Nat) (v : Value) (w : World) (hown : RowP w B v (tsL W H (2 * c) (2 * c))) :
    Calls Try.prog 25 #[cloudV W H v m b] w fun e w' => e = .returned (.tuple #[.float .f32 1048576000, .bool true]) ∧ Below w.heap.size w w' := by
  have VC := keep (fun w h' => ValidCloudP_ok W H (tsL W H (2 * c) (2 * c)) m b h B v w h')
  have P := keep (Has.made w 29 #[.int .i64 W, .int .i64 H, v, .float .f32 m, .float .f32 b])
  have B0 := keep ((Below.refl w.heap.size w).alloc (Nat.le_refl _) (.cells #[.int .i64 W, .int .i64 H, v, .float .f32 m, .float .f32 b] 29))
  have HO := keep (owns_below hown B0.out)
  obtain ⟨A, cp, rfl, hA⟩ := ts_form hown
  have HA := keep hA
  have TE := keep (tsS_even c)
  have TM := keep (ts_means c hc)
  have z0 : tsS 0 = 0 := rfl
  have z1 : wd single 2 ((0 : Nat) : Int) = 0 := wd_zero single 2
  have hn : 2 ≤ 2 * c ∧ 2 * c ≤ 16 := by omega
  clear hown hA h hc
  generalize 2 * c = n at *
  have hne : ((n : Int) == (0 : Int)) = false := by
    rw [beq_eq_false_iff_ne]; omega
  unfold cloudV at *
  go_enter Try.func25, Try.ntmps25
  have cg := P.out.cells
  go_wp2_with fail
  refine (VC.out _ HO.out).mono ?_
  rintro e w1 ⟨rfl, hb⟩
  have P1 := keep (P.out.after hb)
  clear cg
  have cg := P1.out.cells
  have B1 := keep (B0.out.trans (hb.mono B0.out.size))
  clear hb P HO B0 VC
  go_wp2_with fail
  clear cg hne
  go_loopw [24, 4] (fun s z wr => ∃ (i : Nat), i ≤ n ∧ s = .int .i64 i ∧ z = .complex .f32 (tsS i) 0 ∧ Kept (Has wr w.heap.size 29 #[.int .i64 W, .int .i64 H, .slice A n cp, .float .f32 m, .float .f32 b]) ∧ Kept (Below w.heap.size w wr)) (fun s _ _ => n - (intOf s).toNat)
  case atStart => exact ⟨0, Nat.zero_le _, rfl, by rw [z0], P1, B1⟩
  case round =>
    clear B1 P1 z0
    obtain ⟨i, hi, rfl, rfl, hP, hb⟩ := hrel
    have hsz := hb.out.size
    by_cases hlt : i < n
    · obtain ⟨g, rfl, hg, c0, c1, c2, c3⟩ := HA.out i hlt
      have d0 := (hb.out.cell (p := ⟨g, i * 4, none⟩) hg).trans c0
      have d1 := (hb.out.cell (p := ⟨g, i * 4 + 1, none⟩) hg).trans c1
      have d2 := (hb.out.cell (p := ⟨g, i * 4 + 2, none⟩) hg).trans c2
      have d3 := (hb.out.cell (p := ⟨g, i * 4 + 3, none⟩) hg).trans c3
      have PL := keep (fun w => plus_any (tsS i) 0 (tsU i) 0 _ _ (ts_step i).1 ts_zero.1 w)
      have K0 := keep (hP.out.beside (.cells #[.complex .f32 (tsX W n i) (tsY H), .complex .f32 (tsU i) 0, .float .f32 3212836864, .float .f32 1065353216] 52))
      clear c0 c1 c2 c3
      go_wp2_with fail
      refine (PL.out _).mono ?_
      rintro e w' ⟨rfl, rfl⟩
      go_wp2_with fail
      go_roundw
      case rel => exact ⟨i + 1, by omega, by go_num, rfl, K0, keep (hb.out.trans (by go_grown))⟩
      case measure => simp [intOf]; omega
    · obtain rfl : i = n := by omega
      have cg := hP.out.cells
      have fq := frun TM.out.1
      rw [TE.out]
      go_wp2_with fail
      clear cg fq
      go_loopw [49, 9] (fun s z wx => ∃ (j : Nat), j ≤ i ∧ s = .int .i64 j ∧ z = .float .f32 (wd single 2 (j : Int)) ∧ Kept (Below w.heap.size w wx)) (fun s _ _ => i - (intOf s).toNat)
      case atStart => exact ⟨0, Nat.zero_le _, rfl, by rw [z1], hb⟩
      case round =>
        clear hb hP z1 hlt
        obtain ⟨j, hj, rfl, rfl, hb⟩ := hrel
        have hsz := hb.out.size
        by_cases hlt : j < i
        · obtain ⟨g, rfl, hg, c0, c1, c2, c3⟩ := HA.out j hlt
          have d0 := (hb.out.cell (p := ⟨g, j * 4, none⟩) hg).trans c0
          have d1 := (hb.out.cell (p := ⟨g, j * 4 + 1, none⟩) hg).trans c1
          have d2 := (hb.out.cell (p := ⟨g, j * 4 + 2, none⟩) hg).trans c2
          have d3 := (hb.out.cell (p := ⟨g, j * 4 + 3, none⟩) hg).trans c3
          have LE := keep (fun w => less_any (tsU j) 0 0 0 _ _ (ts_step j).2.2 ts_zero.2.2 w)
          have PO := keep (fun w => PowerOf_ts j w)
          have ea := fadd (k := 2) (a := (j : Int)) (b := 1) (by omega) (by omega) (by omega) (by omega)
          rw [ts_quart.1] at ea
          have fa := frun ea
          clear c0 c1 c2 c3 ea
          go_wp2_with fail
          refine (LE.out _).mono ?_
          rintro e w' ⟨rfl, rfl⟩
          go_wp2_with fail
          refine (PO.out _).mono ?_
          rintro e w' ⟨rfl, rfl⟩
          go_wp2_with fail
          go_roundw
          case rel => exact ⟨j + 1, by omega, by go_num, by rw [Int.natCast_succ], keep (hb.out.trans (by go_grown))⟩
          case measure => simp [intOf]; omega
        · obtain rfl : j = i := by omega
          have fq := frun TM.out.2.1
          go_wp2_with fail
          go_ret2
          exact ⟨rfl, hb.out⟩
end Go.Proofs.Ytnmdgbnophclnaa
