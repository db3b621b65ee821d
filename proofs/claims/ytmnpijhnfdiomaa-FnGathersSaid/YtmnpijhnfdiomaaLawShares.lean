/- The law FnShares by its walk: shares are not less than 0 and add up to 1, corners are corners, and a place has the same shares a whole grid further. No condition but that the bytes can be read. -/
import Derived.Test.YtmnpijhnfdiomaaGi
import Derived.Test.YtmnpijhnfdiomaaGj
namespace Go.Proofs.Ytmnpijhnfdiomaa
open Go.RowKit Go.Sort Ieee

theorem idx_bounds (W H : Nat) (h : Sides W H) (x y : Int) : 0 ≤ idx W H x y ∧ idx W H x y < (W : Int) * (H : Int) := by
  obtain ⟨⟨h1, h2⟩, h3, h4⟩ := h
  have b0 := Int.emod_nonneg x (show (W : Int) ≠ 0 by omega)
  have b1 := Int.emod_lt_of_pos x (show (0 : Int) < (W : Int) by omega)
  have b2 := Int.emod_nonneg y (show (H : Int) ≠ 0 by omega)
  have b3 := Int.emod_lt_of_pos y (show (0 : Int) < (H : Int) by omega)
  have t0 : 0 ≤ (W : Int) * (y % (H : Int)) := Int.mul_nonneg (by omega) b2
  have t1 : (W : Int) * (y % (H : Int)) ≤ (W : Int) * ((H : Int) - 1) := Int.mul_le_mul_of_nonneg_left (by omega) (by omega)
  have t2 : (W : Int) * ((H : Int) - 1) = (W : Int) * (H : Int) - W := by rw [Int.mul_sub, Int.mul_one]
  unfold idx
  omega
theorem md_idem (x : Int) (W : Nat) : md (md x W) W = md x W := by unfold md; exact Int.emod_emod_of_dvd x (Int.dvd_refl _)
theorem md_add (x : Int) (W : Nat) : md (x + 8 * (W : Int)) W = md x W := by unfold md; exact Int.add_emod_right _ _
theorem md_sub (x : Int) (W : Nat) : md (x + -(8 * (W : Int))) W = md x W := by unfold md; rw [← Int.sub_eq_add_neg]; exact Int.sub_emod_right _ _
theorem share_bounds {a b : Int} (ha0 : 0 ≤ a) (ha : a ≤ 8) (hb0 : 0 ≤ b) (hb : b ≤ 8) : 0 ≤ a * b ∧ a * b ≤ 64 := ⟨Int.mul_nonneg ha0 hb0, Int.mul_le_mul ha hb hb0 (by omega)⟩
theorem share_sum (f h : Int) : (8 - f) * (8 - h) + f * (8 - h) + (8 - f) * h + f * h = 64 := by
  have e1 : (8 - f) * (8 - h) + f * (8 - h) = 8 * (8 - h) := by rw [← Int.add_mul]; congr 1; omega
  have e2 : (8 - f) * h + f * h = 8 * h := by rw [← Int.add_mul]; congr 1; omega
  omega
theorem not_less_zero (k : Nat) (a : Int) (hk : k ≤ 100) (h0 : 0 ≤ a) (ha : a.natAbs < 16777216) : (FloatKind.f32.format.order (wd single k a) 0 == some .lt) = false := by
  have h := forder (k := k) (a := a) (b := 0) hk ha (by omega)
  rw [wd_zero] at h
  rw [h]
  rcases Int.lt_trichotomy a 0 with h | h | h
  · omega
  · rw [Int.compare_eq_eq.2 h]; rfl
  · rw [Int.compare_eq_gt.2 h]; rfl
theorem not_neg_zero (k : Nat) (a : Int) (hk : k ≤ 100) (h0 : 0 ≤ a) (ha : a.natAbs < 16777216) : FloatKind.f32.format.order (wd single k a) 0 = some .gt ∨ FloatKind.f32.format.order (wd single k a) 0 = some .eq := by
  have h := forder (k := k) (a := a) (b := 0) hk ha (by omega)
  rw [wd_zero] at h
  rw [h]
  rcases Int.lt_trichotomy a 0 with h | h | h
  · omega
  · exact .inr (by rw [Int.compare_eq_eq.2 h])
  · exact .inl (by rw [Int.compare_eq_gt.2 h])
theorem neg_side (H : Nat) (h4 : 4 ≤ H) (h7 : H ≤ 7) : Op.negFloat .f32 (floatOfInt .f32 (H : Int)) = wd single 3 (-(8 * (H : Int))) ∧ floatOfInt .f32 (H : Int) = wd single 3 (8 * (H : Int)) := by
  have hs : H = 4 ∨ H = 5 ∨ H = 6 ∨ H = 7 := by omega
  rcases hs with rfl | rfl | rfl | rfl <;> decide +kernel
theorem run_neg {a b : Nat} (h : Op.negFloat .f32 a = b) (w : World) : (Op.unary .neg (.float .f32 a)).run Try.prog w = .ok (.float .f32 b) w := by
  rw [show Op.unary .neg (.float .f32 a) = pure (.float .f32 (Op.negFloat .f32 a)) from rfl, h]
  rfl
theorem run_cadd {a b c d re im : Nat} (h1 : floatBits .add .f32 a c = some re) (h2 : floatBits .add .f32 b d = some im) (t : TypeId) (w : World) : (binOp .add t (.complex .f32 a b) (.complex .f32 c d)).run Try.prog w = .ok (.complex .f32 re im) w :=
  run_complex_sum w .add (.inl rfl) t .f32 a b c d re im (by unfold cSumBits; rw [h1, h2]; rfl)
theorem one_word6 : wd single 6 64 = 1065353216 := by decide +kernel

/-- The sum of the first shares. -/
def psum (f h : Int) : Nat → Int
  | 0 => 0
  | 1 => (8 - f) * (8 - h)
  | 2 => (8 - f) * (8 - h) + f * (8 - h)
  | 3 => (8 - f) * (8 - h) + f * (8 - h) + (8 - f) * h
  | _ => (8 - f) * (8 - h) + f * (8 - h) + (8 - f) * h + f * h
theorem frac_bounds (x : Int) (W : Nat) : 0 ≤ frac x W ∧ frac x W < 8 := by unfold frac; omega
theorem psum_bounds {f h : Int} (f0 : 0 ≤ f) (f8 : f < 8) (h0 : 0 ≤ h) (h8 : h < 8) (k : Nat) : 0 ≤ psum f h k ∧ psum f h k ≤ 64 := by
  have s := share_sum f h
  have a := share_bounds (a := 8 - f) (b := 8 - h) (by omega) (by omega) (by omega) (by omega)
  have b := share_bounds (a := f) (b := 8 - h) (by omega) (by omega) (by omega) (by omega)
  have c := share_bounds (a := 8 - f) (b := h) (by omega) (by omega) (by omega) (by omega)
  have d := share_bounds (a := f) (b := h) (by omega) (by omega) (by omega) (by omega)
  unfold psum
  split <;> omega
theorem pack {w : World} {g1 g2 g3 g4 W H : Nat} {cx cy f h : Int} (hs : Sides W H) (f0 : 0 ≤ f) (f8 : f < 8) (h0 : 0 ≤ h) (h8 : h < 8) (k1 : Has w g1 81 (cornersA W H cx cy)) (k2 : Has w g2 82 (sharesA f h)) (k3 : Has w g3 81 (cornersA W H cx cy)) (k4 : Has w g4 82 (sharesA f h)) (k : Nat) (hk : k < 4) :
    ∃ i s : Int, w.cell? ⟨g1, k, none⟩ = some (.int .i64 i) ∧ w.cell? ⟨g3, k, none⟩ = some (.int .i64 i) ∧ w.cell? ⟨g2, k, none⟩ = some (.float .f32 (wd single 6 s)) ∧ w.cell? ⟨g4, k, none⟩ = some (.float .f32 (wd single 6 s)) ∧
      0 ≤ i ∧ i < (W : Int) * (H : Int) ∧ 0 ≤ s ∧ s ≤ 64 ∧ psum f h (k + 1) = psum f h k + s := by
  have a := share_bounds (a := 8 - f) (b := 8 - h) (by omega) (by omega) (by omega) (by omega)
  have b := share_bounds (a := f) (b := 8 - h) (by omega) (by omega) (by omega) (by omega)
  have c := share_bounds (a := 8 - f) (b := h) (by omega) (by omega) (by omega) (by omega)
  have d := share_bounds (a := f) (b := h) (by omega) (by omega) (by omega) (by omega)
  have ks : k = 0 ∨ k = 1 ∨ k = 2 ∨ k = 3 := by omega
  rcases ks with rfl | rfl | rfl | rfl
  · exact ⟨_, _, k1.cells 0, k3.cells 0, k2.cells 0, k4.cells 0, (idx_bounds W H hs _ _).1, (idx_bounds W H hs _ _).2, a.1, a.2, by simp only [psum]; omega⟩
  · exact ⟨_, _, k1.cells 1, k3.cells 1, k2.cells 1, k4.cells 1, (idx_bounds W H hs _ _).1, (idx_bounds W H hs _ _).2, b.1, b.2, rfl⟩
  · exact ⟨_, _, k1.cells 2, k3.cells 2, k2.cells 2, k4.cells 2, (idx_bounds W H hs _ _).1, (idx_bounds W H hs _ _).2, c.1, c.2, rfl⟩
  · exact ⟨_, _, k1.cells 3, k3.cells 3, k2.cells 3, k4.cells 3, (idx_bounds W H hs _ _).1, (idx_bounds W H hs _ _).2, d.1, d.2, rfl⟩

set_option maxHeartbeats 8000000 in
set_option maxRecDepth 100000 in
theorem lawShares_any (a1 a2 : Option Addr) (n1 c1 n2 c2 : Nat) (w : World) (hb1 : Bytes w a1 n1) (hb2 : Bytes w a2 n2) :
    Calls Try.prog 3 #[.slice a1 n1 c1, .slice a2 n2 c2] w fun e w' => e = .returned (.bool true) ∧ Below w.heap.size w w' := by
  have LO := keep (fun w => r8Long_any a1 a2 n1 c1 n2 c2 w)
  cases hl : (decide (48 < n1) || decide (48 < n2))
  case true =>
    rw [hl] at LO
    clear hl hb1 hb2
    go_enter Try.func3, Try.ntmps3
    go_wp2_with fail
    refine (LO.out _).mono ?_
    rintro e w' ⟨rfl, rfl⟩
    go_wp2_with fail
    go_ret
    exact ⟨rfl, Below.refl _ _⟩
  case false =>
    rw [hl] at LO
    have GR := keep (R8Grid_ok a1 n1 c1 w hb1)
    have HB2 := keep hb2
    clear hl hb1 hb2
    go_enter Try.func3, Try.ntmps3
    go_wp2_with fail
    refine (LO.out _).mono ?_
    rintro e w' ⟨rfl, rfl⟩
    go_wp2_with fail
    refine GR.out.mono ?_
    rintro e w1 ⟨W, H, ⟨hs, hH6⟩, rfl, hb⟩
    have HS := keep hs
    have GV : gridV W H = .agg #[.int .i64 W, .int .i64 H] := rfl
    have P1 := keep (Has.made w1 25 #[.int .i64 W, .int .i64 H])
    have B1 := keep (hb.alloc hb.size (.cells #[.int .i64 W, .int .i64 H] 25))
    have PL := keep (R8Place_ok a2 n2 c2 0 (w1.alloc (.cells #[.int .i64 W, .int .i64 H] 25)) ((HB2.out.later hb (fun b o e hn => by
      obtain ⟨b', o', e', hl, _⟩ := HB2.out 0 hn
      rw [e] at e'
      injection e' with e'
      injection e' with e'
      omega)).alloc _) (by omega))
    rw [GV]
    clear hb GV LO GR HB2
    go_wp2_with fail
    refine PL.out.mono ?_
    rintro e w2 ⟨x, y, hx, hy, rfl, hb⟩
    have hpo : PlaceOk x y := ⟨⟨by omega, by omega⟩, by omega, by omega⟩
    obtain ⟨⟨hw4, hw7⟩, hh4, hh7⟩ := id hs
    have hpf : PlaceOk (x + 8 * (W : Int)) (y + -(8 * (H : Int))) := ⟨⟨by omega, by omega⟩, by omega, by omega⟩
    obtain ⟨mx0, mx1⟩ := md_bounds x W hw4
    obtain ⟨my0, my1⟩ := md_bounds y H hh4
    have hpm : PlaceOk (md x W) (md y H) := ⟨⟨by omega, by omega⟩, by omega, by omega⟩
    have S1 := keep (fun w => SharesAt_ok W H hs x y hpo w)
    have S2' := fun w => SharesAt_ok W H hs _ _ hpf w
    unfold frac at S2'
    rw [md_add, md_sub] at S2'
    have S2 := keep S2'
    clear S2'
    have W1 := keep (fun w => WrapPlace_ok W H hs x y hpo w)
    have W2' := fun w => WrapPlace_ok W H hs _ _ hpm w
    rw [md_idem, md_idem] at W2'
    have W2 := keep W2'
    clear W2'
    have C1 := keep (fun w => CellOf_ok W H hs x y hpo w)
    have V1 := keep (fun w => ValidGrid_ok W H hs w)
    have Q1 := keep (fun w => SameComplex_wd (md x W) (md y H) (by omega) (by omega) w)
    obtain ⟨n1e, n2e⟩ := neg_side H hh4 hh7
    have fw := (neg_side W hw4 hw7).2
    have fn := run_neg n1e
    have fa := run_cadd (fadd (k := 3) (a := x) (b := 8 * (W : Int)) (by omega) (by omega) (by omega) (by omega)) (fadd (k := 3) (a := y) (b := -(8 * (H : Int))) (by omega) (by omega) (by omega) (by omega))
    rw [← fw] at fa
    have p1 := P1.out.after hb
    have cg := p1.cells
    have P2 := keep p1
    have B2 := keep (B1.out.trans (hb.mono B1.out.size))
    have FA := keep fa
    have FN := keep fn
    have IB := keep (fun u v => idx_bounds W H hs u v)
    clear hb p1 n1e n2e fw fa fn P1 B1 PL hpo hpf hpm hx hy hs mx0 mx1 my0 my1
    unfold gridV placeV at *
    go_wp2_with fail
    refine (S1.out _).mono ?_
    rintro e w3 ⟨g1, g2, rfl, hc1, hc2, hb⟩
    have p3 := P2.out.after hb
    clear cg
    have cg := p3.cells
    have P3 := keep p3
    have B3 := keep (B2.out.trans (hb.mono B2.out.size))
    have fa := FA.out
    have fn := FN.out
    have HC1 := keep hc1
    have HC2 := keep hc2
    clear hb p3 P2 B2 hc1 hc2 FA FN
    go_wp2_with fail
    refine (S2.out _).mono ?_
    rintro e w4 ⟨g3, g4, rfl, hc3, hc4, hb⟩
    have p4 := P3.out.after hb
    clear cg
    have cg := p4.cells
    have P4 := keep p4
    have B4 := keep (B3.out.trans (hb.mono B3.out.size))
    have K1 := keep (HC1.out.after hb)
    have K2 := keep (HC2.out.after hb)
    have K3 := keep hc3
    have K4 := keep hc4
    clear hb p4 P3 B3 HC1 HC2 hc3 hc4 fa fn
    go_wp2_with fail
    refine (W1.out _).mono ?_
    rintro e w5 ⟨rfl, hb⟩
    have p5 := P4.out.after hb
    clear cg
    have cg := p5.cells
    have P5 := keep p5
    have B5 := keep (B4.out.trans (hb.mono B4.out.size))
    have K1 := keep (K1.out.after hb)
    have K2 := keep (K2.out.after hb)
    have K3 := keep (K3.out.after hb)
    have K4 := keep (K4.out.after hb)
    clear hb p5 P4 B4
    go_wp2_with fail
    refine (W2.out _).mono ?_
    rintro e w6 ⟨rfl, hb⟩
    have p6 := P5.out.after hb
    clear cg
    have cg := p6.cells
    have P6 := keep p6
    have B6 := keep (B5.out.trans (hb.mono B5.out.size))
    have K1 := keep (K1.out.after hb)
    have K2 := keep (K2.out.after hb)
    have K3 := keep (K3.out.after hb)
    have K4 := keep (K4.out.after hb)
    clear hb p6 P5 B5
    go_wp2_with fail
    refine (C1.out _).mono ?_
    rintro e w7 ⟨rfl, hb⟩
    have p7 := P6.out.after hb
    clear cg
    have cg := p7.cells
    have P7 := keep p7
    have B7 := keep (B6.out.trans (hb.mono B6.out.size))
    have K1 := keep (K1.out.after hb)
    have K2 := keep (K2.out.after hb)
    have K3 := keep (K3.out.after hb)
    have K4 := keep (K4.out.after hb)
    clear hb p7 P6 B6
    go_wp2_with fail
    refine (V1.out _).mono ?_
    rintro e w8 ⟨rfl, hb⟩
    have p8 := P7.out.after hb
    clear cg
    have cg := p8.cells
    have P8 := keep p8
    have B8 := keep (B7.out.trans (hb.mono B7.out.size))
    have k1 := K1.out.after hb
    have K1 := keep (K1.out.after hb)
    have K2 := keep (K2.out.after hb)
    have K3 := keep (K3.out.after hb)
    have K4 := keep (K4.out.after hb)
    have ck1 := k1.cells
    have hne0 : ((idx W H (md x W / 8) (md y H / 8)) != (idx W H (md x W / 8) (md y H / 8))) = false := by simp
    unfold cornersA at ck1
    clear hb p8 P7 B7 k1
    go_wp2_with fail
    refine (Q1.out _).mono ?_
    rintro e w' ⟨rfl, rfl⟩
    clear ck1 hne0
    go_wp2_with fail
    obtain ⟨f0, f8⟩ := frac_bounds x W
    obtain ⟨h0, h8⟩ := frac_bounds y H
    have PK := keep (pack HS.out f0 f8 h0 h8 K1.out K2.out K3.out K4.out)
    have PB := keep (psum_bounds f0 f8 h0 h8)
    have SM := keep (share_sum (frac x W) (frac y H))
    clear f0 f8 h0 h8 S1 S2 W1 W2 C1 V1 Q1 K1 K2 K3 K4 IB
    go_loopw [19, 20] (fun t s wr => ∃ (k m : Nat), k ≤ 4 ∧ s = .int .i64 k ∧ t = .float .f32 (wd single 6 (psum (frac x W) (frac y H) k)) ∧ wr = w'.drewN m) (fun _ s _ => 4 - (intOf s).toNat)
    case atStart => exact ⟨0, 0, by omega, rfl, by rw [show psum (frac x W) (frac y H) 0 = 0 from rfl, wd_zero], rfl⟩
    case round =>
      obtain ⟨k, m, hk, rfl, rfl, rfl⟩ := hrel
      by_cases hlt : k < 4
      case pos =>
        obtain ⟨i, s, e1, e2, e3, e4, hi0, hi1, hs0, hs1, hps⟩ := PK.out k hlt
        have b1 := PB.out k
        have b2 := PB.out (k + 1)
        have fa := frun (fadd (k := 6) (a := psum (frac x W) (frac y H) k) (b := s) (by omega) (by omega) (by omega) (by omega))
        rw [← hps] at fa
        have HPS := keep hps
        have o1 := order_wd_self 6 s (by omega) (by omega)
        have o2 := not_less_zero 6 s (by omega) hs0 (by omega)
        have hk0 : (0 : Int) ≤ (k : Int) := by omega
        have hk4 : (k : Int) < 4 := by omega
        have hwh : (W : Int) * (H : Int) ≤ 49 := Int.mul_le_mul (show (W : Int) ≤ 7 by omega) (show (H : Int) ≤ 7 by omega) (by omega) (by omega)
        have hwp : IntKind.i64.wrap ((W : Int) * (H : Int)) = (W : Int) * (H : Int) := IntWalk.i64_in _ ⟨by omega, by omega⟩
        have t2 : decide ((W : Int) * (H : Int) ≤ i) = false := by simp; omega
        have t3 : (i != i) = false := by simp
        have t1 : decide (i < 0) = false := by simp; omega
        clear hps b1 b2 hs0 hs1 hwh hi0 hi1
        go_wp2_with fail
        go_quiet (fail)
        clear t1 t2 t3 hwp o1 o2
        go_wp2_with fail
        go_roundw
        case rel => exact ⟨k + 1, _, by omega, by go_num, rfl, rfl⟩
        case measure => simp [intOf]; omega
      case neg =>
        obtain rfl : k = 4 := by omega
        obtain ⟨mx0, mx1⟩ := md_bounds x W hw4
        obtain ⟨my0, my1⟩ := md_bounds y H hh4
        have e6 : wd single 6 (psum (frac x W) (frac y H) 4) = 1065353216 := by
          rw [show psum (frac x W) (frac y H) 4 = 64 from SM.out]; exact one_word6
        have o6 : FloatKind.f32.format.order 1065353216 1065353216 = some .eq := by decide +kernel
        have ow := forder (k := 3) (a := md x W) (b := 8 * (W : Int)) (by omega) (by omega) (by omega)
        have oh := forder (k := 3) (a := md y H) (b := 8 * (H : Int)) (by omega) (by omega) (by omega)
        rw [Int.compare_eq_lt.2 mx1, ← (neg_side W hw4 hw7).2] at ow
        rw [Int.compare_eq_lt.2 my1, ← (neg_side H hh4 hh7).2] at oh
        have zx : FloatKind.f32.format.order (wd single 3 (md x W)) 0 = some .gt ∨ FloatKind.f32.format.order (wd single 3 (md x W)) 0 = some .eq := not_neg_zero 3 _ (by omega) mx0 (by omega)
        have zy : FloatKind.f32.format.order (wd single 3 (md y H)) 0 = some .gt ∨ FloatKind.f32.format.order (wd single 3 (md y H)) 0 = some .eq := not_neg_zero 3 _ (by omega) my0 (by omega)
        rw [e6]
        clear mx0 mx1 my0 my1 e6 PK PB SM
        rcases zx with zx | zx <;> rcases zy with zy | zy
        all_goals
          go_wp2_with fail
          go_ret
          exact ⟨rfl, Below.drewN_of B8.out _⟩
end Go.Proofs.Ytmnpijhnfdiomaa
