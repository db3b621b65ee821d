/- Contracts: what is missing, means, energies, sweeps by workers, equal numbers, by words. No condition but that each step runs. -/
import Derived.Test.YtmlocjcfcmifdaaXu
namespace Go.Proofs.Ytmlocjcfcmifdaa
open Go.RowKit Go.Sort Ieee
set_option linter.unusedSimpArgs false
set_option linter.unusedVariables false

set_option maxHeartbeats 8000000 in
set_option maxRecDepth 20000 in
theorem rest_ok (W H : Nat) (h : Sd W H) {ch S r : Nat → Nat} {m : Nat} (M : MeanW (W * H) ch S m r) {v : Nat → Nat} {A : Nat → Nat → Nat} (L : LapW W H v A) {q : Nat → Nat} (Q : ∀ i, i < W * H → floatBits .sub .f32 (r i) (A i 4) = some (q i)) (g1 g2 c1 c2 : Nat) (w : World) (hv : FW w g1 (W * H) v) (hc : FW w g2 (W * H) ch) :
    Calls Try.prog 54 #[gV W H, .slice (some ⟨g1, 0, none⟩) (W * H) c1, .slice (some ⟨g2, 0, none⟩) (W * H) c2] w fun e w' => ∃ (g d : Nat), e = .returned (.slice (some ⟨g, 0, none⟩) (W * H) d) ∧ FW w' g (W * H) q ∧ Below w.heap.size w w' := by
  have SL := sd_le W H h
  have WM := keep (fun w hc => withoutMeanW_ok (W * H) (by omega) (by omega) M g2 c2 w hc)
  have LA := keep (fun w hv => laplace_ok W H h v A L g1 c1 w hv)
  have HQ := keep Q
  have P := keep (Has.made w 36 #[.int .i64 W, .int .i64 H])
  have B0 := keep ((Below.refl w.heap.size w).alloc (Nat.le_refl _) (.cells #[.int .i64 W, .int .i64 H] 36))
  have V0 := keep (hv.beside (.cells #[.int .i64 W, .int .i64 H] 36))
  have C0 := keep (hc.beside (.cells #[.int .i64 W, .int .i64 H] 36))
  clear h M L Q hv hc
  unfold gV at *
  generalize W * H = n at *
  go_enter Try.func54, Try.ntmps54
  go_wp2_with fail
  refine (WM.out _ C0.out).mono ?_
  rintro e w1 ⟨g7, d7, c7, rfl, hg7, hh7, hc7, hd7, hb⟩
  have P1 := keep (P.out.after hb)
  have V1 := keep (V0.out.after hb)
  have B1 := keep (B0.out.trans (hb.mono B0.out.size))
  have H1 := keep hh7
  have K1 : Kept (CW c7 n (fun i => if i < 0 then q i else r i)) := keep (hc7.congr (fun i hi => by rw [if_neg (by omega)]))
  have l7 : w.heap.size ≤ g7 := Nat.le_trans B0.out.size hg7
  clear hb P V0 C0 B0 WM hg7 hh7 hc7
  have cg := P1.out.cells
  go_wp2_with fail
  refine (LA.out _ V1.out).mono ?_
  rintro e w2 ⟨gl, cl, rfl, hgl, hhl, hcl, hb⟩
  have H2 := keep (H1.out.after hb)
  have B2 := keep (B1.out.trans (hb.mono B1.out.size))
  have F2 := keep (hcl.fw hhl)
  have n27 : g7 ≠ gl := by have := H1.out.in_heap; omega
  clear hb P1 V1 B1 H1 LA hgl hhl hcl cg
  go_wp2_with fail
  go_loopw [16] (fun s wr => ∃ (j : Nat) (cy : Array Value), j ≤ n ∧ s = .int .i64 j ∧ Kept (Has wr g7 28 cy) ∧ Kept (CW cy n (fun i => if i < j then q i else r i)) ∧ Kept (FW wr gl n (fun i => A i 4)) ∧ Kept (Below w.heap.size w wr)) (fun s _ => n - (intOf s).toNat)
  case atStart => exact ⟨0, c7, Nat.zero_le _, rfl, H2, K1, F2, B2⟩
  case round =>
    clear H2 K1 F2 B2
    obtain ⟨j, cy, hj, rfl, hg, hc, hf, hb⟩ := hrel
    by_cases hlt : j < n
    · have z1 := (hg.out.cells j).trans (hc.out.2 j hlt)
      dsimp only at z1
      rw [if_neg (by omega)] at z1
      have z2 := hf.out.2 j hlt
      have u1 := hg.out.free j
      have lg := hg.out.in_heap
      have f1 := zrun (HQ.out j hlt)
      have hlt' : (j : Int) < (n : Int) := by omega
      go_wp2_with fail
      go_roundw
      case rel => exact ⟨j + 1, _, by omega, by go_num, keep (hg.out.written j _), keep (hc.out.put j _ hlt (fun i hi => by
        by_cases e : i = j
        · subst e; rw [if_pos (by omega), if_pos rfl]
        · rw [if_neg e]
          by_cases q : i < j
          · rw [if_pos q, if_pos (by omega)]
          · rw [if_neg q, if_neg (by omega)])), keep (hf.out.set (p := ⟨g7, j, none⟩) n27 _), keep (hb.out.setCell (p := ⟨g7, j, none⟩) l7 _)⟩
      case measure => simp [intOf]; omega
    · obtain rfl : j = n := by omega
      have hq := (hc.out.congr (g := q) (fun i hi => by rw [if_pos hi])).fw hg.out
      have HF := keep hq
      clear hq
      go_wp2_with fail
      go_ret
      exact ⟨g7, d7, rfl, HF.out, hb.out⟩

/-- The greater of two. -/
def mxS (x y : Nat) : Nat := match single.order x y with
  | some .lt => y
  | some .gt => x
  | _ => if (FloatKind.f32.decode x).neg then y else x
theorem run_max32 (x y : Nat) (h : single.order x y ≠ none) (ts : Array TypeId) (t : TypeId) (w : World) : (Builtin.max_ ts t #[.float .f32 x, .float .f32 y]).run Try.prog w = .ok (.float .f32 (mxS x y)) w := by
  unfold mxS
  cases ho : single.order x y with
  | none => exact absurd ho h
  | some o =>
    have ho' : FloatKind.f32.format.order x y = some o := ho
    cases o <;> simp [Builtin.max_, Builtin.max2, ho']
/-- The absolute value of a number. -/
def AbsW (x y : Nat) : Prop := floatToFloatBits .f32 x .f64 = some (widen x) ∧ floatToFloatBits .f64 (widen x % 9223372036854775808) .f32 = some y

/-- What is missing at most: what is done. -/
structure ResW (n : Nat) (q y M : Nat → Nat) : Prop where
  eq : ∀ i, i < n → FloatKind.f32.format.order (q i) (q i) = some .eq
  ab : ∀ i, i < n → AbsW (q i) (y i)
  m0 : M 0 = 0
  mo : ∀ i, i < n → single.order (M i) (y i) ≠ none
  ms : ∀ i, i < n → M (i + 1) = mxS (M i) (y i)

set_option maxHeartbeats 8000000 in
set_option maxRecDepth 20000 in
theorem ResidualOf_ok (W H : Nat) (h : Sd W H) {ch S r : Nat → Nat} {m : Nat} (M : MeanW (W * H) ch S m r) {v : Nat → Nat} {A : Nat → Nat → Nat} (L : LapW W H v A) {q y X : Nat → Nat} (Q : ∀ i, i < W * H → floatBits .sub .f32 (r i) (A i 4) = some (q i)) (R : ResW (W * H) q y X) (g1 g2 c1 c2 : Nat) (w : World) (hv : FW w g1 (W * H) v) (hc : FW w g2 (W * H) ch) :
    Calls Try.prog 19 #[gV W H, .slice (some ⟨g1, 0, none⟩) (W * H) c1, .slice (some ⟨g2, 0, none⟩) (W * H) c2] w fun e w' => e = .returned (.tuple #[.float .f32 (X (W * H)), .bool true]) ∧ Below w.heap.size w w' := by
  have SL := sd_le W H h
  have AF := keep (fun w => xareFields W H h (some ⟨g1, 0, none⟩) (some ⟨g2, 0, none⟩) c1 c2 w)
  have RE := keep (fun w hv hc => rest_ok W H h M L Q g1 g2 c1 c2 w hv hc)
  have HR := keep R
  have P := keep (Has.made w 36 #[.int .i64 W, .int .i64 H])
  have B0 := keep ((Below.refl w.heap.size w).alloc (Nat.le_refl _) (.cells #[.int .i64 W, .int .i64 H] 36))
  have V0 := keep (hv.beside (.cells #[.int .i64 W, .int .i64 H] 36))
  have C0 := keep (hc.beside (.cells #[.int .i64 W, .int .i64 H] 36))
  have AB := keep (fun x w => xAbs_any (widen x) w (xwiden_lt x))
  clear h M L Q R hv hc
  unfold gV at *
  generalize W * H = n at *
  go_enter Try.func19, Try.ntmps19
  have cg := P.out.cells
  go_wp2_with fail
  refine (AF.out _).mono ?_
  rintro e w1 ⟨rfl, hb⟩
  have P1 := keep (P.out.after hb)
  have V1 := keep (V0.out.after hb)
  have C1 := keep (C0.out.after hb)
  have B1 := keep (B0.out.trans (hb.mono B0.out.size))
  clear hb P B0 V0 C0 AF cg
  have cg := P1.out.cells
  go_wp2_with fail
  refine (RE.out _ V1.out C1.out).mono ?_
  rintro e w2 ⟨gq, dq, rfl, hf, hb⟩
  have F2 := keep hf
  have B2 := keep (B1.out.trans (hb.mono B1.out.size))
  clear hf hb P1 V1 C1 B1 RE cg
  go_wp2_with fail
  go_loopw [21, 8] (fun s t wr => ∃ j : Nat, j ≤ n ∧ s = .int .i64 j ∧ t = .float .f32 (X j) ∧ wr = w2) (fun s _ _ => n - (intOf s).toNat)
  case atStart => exact ⟨0, Nat.zero_le _, rfl, by rw [HR.out.m0], rfl⟩
  case round =>
    obtain ⟨j, hj, rfl, rfl, rfl⟩ := hrel
    by_cases hlt : j < n
    · have z1 := F2.out.2 j hlt
      have hlt' : (j : Int) < (n : Int) := by omega
      have e1 := HR.out.eq j hlt
      obtain ⟨a1, a2⟩ := HR.out.ab j hlt
      have d1 := fun w => zconv32 _ _ a1 w
      have d2 := fun w => zconv64 _ _ a2 w
      have mo := HR.out.mo j hlt
      have ms := HR.out.ms j hlt
      have mx := run_max32 _ _ mo
      rw [← ms] at mx
      have ab := keep (AB.out (q j))
      clear a1 a2 mo ms
      go_wp2_with fail
      refine (ab.out _).mono ?_
      rintro e w' ⟨rfl, rfl⟩
      go_wp2_with fail
      go_roundw
      case rel => exact ⟨j + 1, by omega, by go_num, rfl, by trivial⟩
      case measure => simp [intOf]; omega
    · obtain rfl : j = n := by omega
      go_wp2_with fail
      go_ret2
      exact ⟨rfl, B2.out⟩

set_option maxHeartbeats 4000000 in
theorem MeanOf_ok (W H : Nat) (h : Sd W H) (a S : Nat → Nat) (m : Nat) (s0 : S 0 = 0) (fs : ∀ i, i < W * H → floatBits .add .f32 (S i) (a i) = some (S (i + 1))) (fm : floatBits .quo .f32 (S (W * H)) (floatOfInt .f32 ((W * H : Nat) : Int)) = some m) (g c : Nat) (w : World) (hv : FW w g (W * H) a) :
    Calls Try.prog 20 #[gV W H, .slice (some ⟨g, 0, none⟩) (W * H) c] w fun e w' => e = .returned (.tuple #[.float .f32 m, .bool true]) ∧ Below w.heap.size w w' := by
  have SL := sd_le W H h
  have IF := keep (fun w => xIsField W H h (some ⟨g, 0, none⟩) c w)
  have ME := keep (fun w hv => meanW_ok (W * H) (by omega) a S m s0 fs fm g c w hv)
  have P := keep (Has.made w 36 #[.int .i64 W, .int .i64 H])
  have B0 := keep ((Below.refl w.heap.size w).alloc (Nat.le_refl _) (.cells #[.int .i64 W, .int .i64 H] 36))
  have H0 := keep (hv.beside (.cells #[.int .i64 W, .int .i64 H] 36))
  clear h s0 fs fm hv
  unfold gV at *
  generalize W * H = n at *
  have cg := P.out.cells
  go_enter Try.func20, Try.ntmps20
  go_wp2_with fail
  refine (IF.out _).mono ?_
  rintro e w1 ⟨rfl, hb⟩
  have H1 := keep (H0.out.after hb)
  have B1 := keep (B0.out.trans (hb.mono B0.out.size))
  clear hb P B0 H0 IF cg
  go_wp2_with fail
  refine (ME.out _ H1.out).mono ?_
  rintro e w' ⟨rfl, hw⟩
  have hw := hw.symm
  subst hw
  clear ME H1
  go_wp2_with fail
  go_ret2
  exact ⟨rfl, B1.out⟩

/-- A sum of products: what is done. -/
structure DotW (n : Nat) (a b T D : Nat → Nat) : Prop where
  d0 : D 0 = 0
  ft : ∀ i, i < n → floatBits .mul .f32 (a i) (b i) = some (T i)
  fd : ∀ i, i < n → floatBits .add .f32 (D i) (T i) = some (D (i + 1))

set_option maxHeartbeats 4000000 in
theorem DotNumbers_ok (n : Nat) (hn : n ≤ 256) {a b T D : Nat → Nat} (Q : DotW n a b T D) (g1 g2 c1 c2 : Nat) (w : World) (h1 : FW w g1 n a) (h2 : FW w g2 n b) :
    Calls Try.prog 57 #[.slice (some ⟨g1, 0, none⟩) n c1, .slice (some ⟨g2, 0, none⟩) n c2] w fun e w' => e = .returned (.tuple #[.float .f32 (D n), .bool true]) ∧ w' = w := by
  have IL : Kept (∀ w, Calls Try.prog 85 #[.slice (some ⟨g1, 0, none⟩) n c1] w fun e w' => e = .returned (.bool true) ∧ w' = w) := keep (by
    intro w
    have h : (n : Int) ≤ 256 := by omega
    go_enter Try.func85, Try.ntmps85
    go_wp2_with fail
    go_ret
    exact ⟨by simp [h], rfl⟩)
  have HQ := keep Q
  have H1 := keep h1
  have H2 := keep h2
  have hne : ((n : Int) != (n : Int)) = false := by simp
  clear Q h1 h2
  go_enter Try.func57, Try.ntmps57
  go_wp2_with fail
  refine (IL.out _).mono ?_
  rintro e w' ⟨rfl, hw⟩
  have hw := hw.symm
  subst hw
  clear IL
  go_wp2_with fail
  clear hne
  go_loopw [21, 6] (fun s t wr => ∃ j : Nat, j ≤ n ∧ s = .int .i64 j ∧ t = .float .f32 (D j) ∧ wr = w) (fun s _ _ => n - (intOf s).toNat)
  case atStart => exact ⟨0, Nat.zero_le _, rfl, by rw [HQ.out.d0], rfl⟩
  case round =>
    obtain ⟨j, hj, rfl, rfl, rfl⟩ := hrel
    by_cases hlt : j < n
    · have z1 := H1.out.2 j hlt
      have z2 := H2.out.2 j hlt
      have hlt' : (j : Int) < (n : Int) := by omega
      have f1 := zrun (HQ.out.ft j hlt)
      have f2 := zrun (HQ.out.fd j hlt)
      go_wp2_with fail
      go_roundw
      case rel => exact ⟨j + 1, by omega, by go_num, rfl, by trivial⟩
      case measure => simp [intOf]; omega
    · obtain rfl : j = n := by omega
      go_wp2_with fail
      go_ret2
      exact ⟨rfl, rfl⟩

set_option maxHeartbeats 4000000 in
set_option maxRecDepth 20000 in
theorem FieldEnergy_ok (W H : Nat) (h : Sd W H) {ch S r : Nat → Nat} {m : Nat} (M : MeanW (W * H) ch S m r) {v T D : Nat → Nat} {en : Nat} (Q : DotW (W * H) r v T D) (fe : floatBits .mul .f32 1056964608 (D (W * H)) = some en) (g1 g2 c1 c2 : Nat) (w : World) (hv : FW w g1 (W * H) v) (hc : FW w g2 (W * H) ch) :
    Calls Try.prog 21 #[gV W H, .slice (some ⟨g1, 0, none⟩) (W * H) c1, .slice (some ⟨g2, 0, none⟩) (W * H) c2] w fun e w' => e = .returned (.tuple #[.float .f32 en, .bool true]) ∧ Below w.heap.size w w' := by
  have SL := sd_le W H h
  have AF := keep (fun w => xareFields W H h (some ⟨g1, 0, none⟩) (some ⟨g2, 0, none⟩) c1 c2 w)
  have WM := keep (fun w hc => withoutMeanW_ok (W * H) (by omega) (by omega) M g2 c2 w hc)
  have DN := keep (fun ga d w h1 h2 => DotNumbers_ok (W * H) SL.2 Q ga g1 d c1 w h1 h2)
  have f1 := zrun fe
  have P := keep (Has.made w 36 #[.int .i64 W, .int .i64 H])
  have B0 := keep ((Below.refl w.heap.size w).alloc (Nat.le_refl _) (.cells #[.int .i64 W, .int .i64 H] 36))
  have V0 := keep (hv.beside (.cells #[.int .i64 W, .int .i64 H] 36))
  have C0 := keep (hc.beside (.cells #[.int .i64 W, .int .i64 H] 36))
  clear h M Q fe hv hc
  unfold gV at *
  generalize W * H = n at *
  generalize D n = dn at *
  go_enter Try.func21, Try.ntmps21
  have cg := P.out.cells
  go_wp2_with fail
  refine (AF.out _).mono ?_
  rintro e w1 ⟨rfl, hb⟩
  have V1 := keep (V0.out.after hb)
  have C1 := keep (C0.out.after hb)
  have B1 := keep (B0.out.trans (hb.mono B0.out.size))
  clear hb P B0 V0 C0 AF cg
  go_wp2_with fail
  refine (WM.out _ C1.out).mono ?_
  rintro e w2 ⟨g9, d9, c9, rfl, hg9, hh9, hc9, hd9, hb⟩
  have R2 := keep (hc9.fw hh9)
  have V2 := keep (V1.out.after hb)
  have B2 := keep (B1.out.trans (hb.mono B1.out.size))
  clear hb V1 C1 B1 WM hg9 hh9 hc9
  go_wp2_with fail
  refine (DN.out _ _ _ R2.out V2.out).mono ?_
  rintro e w' ⟨rfl, hw⟩
  have hw := hw.symm
  subst hw
  clear DN R2 V2
  go_wp2_with fail
  go_ret2
  exact ⟨rfl, B2.out⟩

set_option maxHeartbeats 8000000 in
set_option maxRecDepth 20000 in
theorem SweepShared_ok (W H : Nat) (h : Sd W H) (hW : W % 2 = 0) (hH : H % 2 = 0) (q k : Nat) (hq : q < 2) (hk1 : 1 ≤ k) (hk2 : k ≤ 8) {v ch S r : Nat → Nat} {m : Nat} (M : MeanW (W * H) ch S m r) (OK : OkS W H q r v) (g1 g2 c1 c2 : Nat) (w : World) (hv : FW w g1 (W * H) v) (hc : FW w g2 (W * H) ch) :
    Calls Try.prog 23 #[gV W H, .slice (some ⟨g1, 0, none⟩) (W * H) c1, .slice (some ⟨g2, 0, none⟩) (W * H) c2, .int .i64 q, .int .i64 k] w fun e w' => ∃ (g d : Nat), e = .returned (.tuple #[.slice (some ⟨g, 0, none⟩) (W * H) d, .bool true]) ∧ w.heap.size ≤ g ∧ FW w' g (W * H) (swS W H q r (W * H) v) ∧ Below w.heap.size w w' := by
  have SC := keep (fun w hv hc => SweepColour_ok W H h q hq M OK g1 g2 c1 c2 w hv hc)
  have WI : Kept (∀ w, Calls Try.prog 43 #[.int .i64 k, .int .i64 1, .int .i64 8] w fun e w' => e = .returned (.bool true) ∧ w' = w) := keep (fun w => (within_any k 1 8 w).mono fun e w' ⟨he, hw⟩ => ⟨by rw [he]; congr 2; simp; omega, hw⟩)
  have P := keep (Has.made w 36 #[.int .i64 W, .int .i64 H])
  have B0 := keep ((Below.refl w.heap.size w).alloc (Nat.le_refl _) (.cells #[.int .i64 W, .int .i64 H] 36))
  have V0 := keep (hv.beside (.cells #[.int .i64 W, .int .i64 H] 36))
  have C0 := keep (hc.beside (.cells #[.int .i64 W, .int .i64 H] 36))
  have t1 : Int.tmod (W : Int) 2 = 0 := by rw [Int.tmod_eq_emod_of_nonneg (by omega)]; omega
  have t2 : Int.tmod (H : Int) 2 = 0 := by rw [Int.tmod_eq_emod_of_nonneg (by omega)]; omega
  have t3 : IntKind.i64.wrap 0 = 0 := by decide
  clear h M OK hv hc hW hH hk1 hk2
  unfold gV at *
  generalize W * H = n at *
  go_enter Try.func23, Try.ntmps23
  have cg := P.out.cells
  go_wp2_with fail
  refine (WI.out _).mono ?_
  rintro e w' ⟨rfl, hw⟩
  have hw := hw.symm
  subst hw
  clear WI
  go_wp2_with fail
  refine (SC.out _ V0.out C0.out).mono ?_
  rintro e w2 ⟨g, d, rfl, lg, hf, hb⟩
  have HF := keep hf
  have B2 := keep (B0.out.trans (hb.mono B0.out.size))
  have l2 : w.heap.size ≤ g := Nat.le_trans B0.out.size lg
  clear hf hb B0 V0 C0 P cg SC lg
  go_wp2_with fail
  go_ret2
  exact ⟨g, d, rfl, l2, HF.out, B2.out⟩
set_option maxHeartbeats 4000000 in
theorem SweepShared_no (W H : Nat) (ho : W % 2 = 1 ∨ H % 2 = 1) (a b : Value) (q k : Int) (w : World) :
    Calls Try.prog 23 #[gV W H, a, b, .int .i64 q, .int .i64 k] w fun e w' => e = .returned (.tuple #[.slice none 0 0, .bool false]) ∧ Below w.heap.size w w' := by
  have P := keep (Has.made w 36 #[.int .i64 W, .int .i64 H])
  have B0 := keep ((Below.refl w.heap.size w).alloc (Nat.le_refl _) (.cells #[.int .i64 W, .int .i64 H] 36))
  have t3 : IntKind.i64.wrap 0 = 0 := by decide
  have t4 : IntKind.i64.wrap 1 = 1 := by decide
  have hW : W % 2 = 1 ∨ (W % 2 = 0 ∧ H % 2 = 1) := by omega
  unfold gV at *
  rcases hW with hW | ⟨hW, hH⟩
  · have t1 : Int.tmod (W : Int) 2 = 1 := by rw [Int.tmod_eq_emod_of_nonneg (by omega)]; omega
    clear ho hW
    go_enter Try.func23, Try.ntmps23
    have cg := P.out.cells
    go_wp2_with fail
    go_ret2
    exact ⟨rfl, B0.out⟩
  · have t1 : Int.tmod (W : Int) 2 = 0 := by rw [Int.tmod_eq_emod_of_nonneg (by omega)]; omega
    have t2 : Int.tmod (H : Int) 2 = 1 := by rw [Int.tmod_eq_emod_of_nonneg (by omega)]; omega
    clear ho hW hH
    go_enter Try.func23, Try.ntmps23
    have cg := P.out.cells
    go_wp2_with fail
    go_ret2
    exact ⟨rfl, B0.out⟩

theorem xrun_bits32 (n : Nat) (w : World) : (callFunc 98 #[.float .f32 n]).run Try.prog w = .ok (.value (.int .u32 n)) w :=
  (run_callFunc_extern Try.func98 (by kernel_rfl) (by kernel_rfl) (by kernel_rfl) (e := Extern.MathFloatBits.float32bits) (by kernel_rfl) _ w).trans rfl
set_option maxHeartbeats 2000000 in
theorem xsame (a : Nat) (ha : FloatKind.f32.format.order a a = some .eq) (w : World) : Calls Try.prog 24 #[.float .f32 a, .float .f32 a] w fun e w' => e = .returned (.bool true) ∧ w' = w := by
  have B : Kept (∀ w, Calls Try.prog 86 #[.float .f32 a] w fun e w' => e = .returned (.int .i64 (wrap64 (a : Int))) ∧ w' = w) := keep (by
    intro w
    have rb := xrun_bits32 a
    go_enter Try.func86, Try.ntmps86
    go_wp2_with fail
    go_ret
    exact ⟨rfl, rfl⟩)
  have S : Kept (∀ w, Calls Try.prog 59 #[.float .f32 a, .float .f32 a] w fun e w' => e = .returned (.bool true) ∧ w' = w) := keep (by
    intro w
    generalize wrap64 (a : Int) = x at *
    go_enter Try.func59, Try.ntmps59
    go_wp2_with fail
    refine (B.out _).mono ?_
    rintro e w' ⟨rfl, rfl⟩
    go_wp2_with fail
    refine (B.out _).mono ?_
    rintro e w' ⟨rfl, rfl⟩
    go_wp2_with fail
    go_ret
    exact ⟨by simp, rfl⟩)
  go_enter Try.func24, Try.ntmps24
  go_wp2_with fail
  refine (S.out _).mono ?_
  rintro e w' ⟨rfl, rfl⟩
  go_wp2_with fail
  go_ret
  exact ⟨rfl, rfl⟩

set_option maxHeartbeats 4000000 in
set_option maxRecDepth 20000 in
theorem b10List_ok (n : Nat) (hn : n ≤ 1000) (a : Nat → Nat) (ha : ∀ i, i < n → FloatKind.f32.format.order (a i) (a i) = some .eq) (g1 g2 c1 c2 : Nat) (w : World) (h1 : FW w g1 n a) (h2 : FW w g2 n a) :
    Calls Try.prog 25 #[.slice (some ⟨g1, 0, none⟩) n c1, .slice (some ⟨g2, 0, none⟩) n c2] w fun e w' => e = .returned (.bool true) ∧ Below w.heap.size w w' := by
  have HA := keep ha
  have H1 := keep h1
  have H2 := keep h2
  have hne : ((n : Int) != (n : Int)) = false := by simp
  clear ha h1 h2
  go_enter Try.func25, Try.ntmps25
  go_wp2_with fail
  clear hne
  go_loopw [13] (fun s wr => ∃ j : Nat, j ≤ n ∧ s = .int .i64 j ∧ Kept (Below w.heap.size w wr)) (fun s _ => n - (intOf s).toNat)
  case atStart => exact ⟨0, Nat.zero_le _, rfl, keep (Below.refl _ _)⟩
  case round =>
    obtain ⟨j, hj, rfl, hb⟩ := hrel
    by_cases hlt : j < n
    · have z1 := cell_regrown ((H1.out.after hb.out).2 j hlt)
      have z2 := cell_regrown ((H2.out.after hb.out).2 j hlt)
      have hlt' : (j : Int) < (n : Int) := by omega
      have SN := keep (fun w d os => Calls.regrown_of ((xsame (a j) (HA.out j hlt) (grow (redrawn w d) os)).mono fun _ _ ⟨he, hw⟩ => ⟨he, hw ▸ Below.refl _ _⟩))
      go_wp2_with fail
      refine wp_region_quiet_below (by as_aux_lemma => kernel_rfl) (by as_aux_lemma => kernel_rfl) ?_
      repeat (any_goals (go_big_quiet_step (first | (with_reducible exact SN.out _ _ _))))
      refine wpQuiet_nil ?_
      intro wz hwz
      obtain ⟨⟨dz, oz⟩, rfl⟩ := hwz
      have hbz := below_regrown wr dz oz
      generalize grow (redrawn wr dz) oz = wz at *
      have BZ := keep (hb.out.trans (hbz.mono hb.out.size))
      clear hbz z1 z2 SN
      go_wp2_with fail
      go_roundw
      case rel => exact ⟨j + 1, by omega, by go_num, BZ⟩
      case measure => simp [intOf]; omega
    · obtain rfl : j = n := by omega
      go_wp2_with fail
      go_ret
      exact ⟨rfl, hb.out⟩
end Go.Proofs.Ytmlocjcfcmifdaa
