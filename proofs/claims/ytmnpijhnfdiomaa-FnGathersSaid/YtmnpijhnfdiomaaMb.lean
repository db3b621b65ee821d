/- Contracts: numbers of fields at places; sums of products of fields; equal fields. -/
import Derived.Test.YtmnpijhnfdiomaaMa
namespace Go.Proofs.Ytmnpijhnfdiomaa
open Go.RowKit Go.Sort Ieee
set_option linter.unusedSimpArgs false

set_option maxHeartbeats 2000000 in
set_option maxRecDepth 20000 in
theorem r8EqualF_ok (k : Nat) (hk : k ≤ 60) (g1 g2 : Nat) (fs : List Int) (M : Nat) (hM : Small fs M) (hM2 : M ≤ 4000000) (hl : fs.length ≤ 200) (c1 c2 : Nat) (w : World) (h1 : FldAt w g1 k fs) (h2 : FldAt w g2 k fs) :
    Calls Try.prog 33 #[.slice (some ⟨g1, 0, none⟩) fs.length c1, .slice (some ⟨g2, 0, none⟩) fs.length c2] w fun e w' => e = .returned (.bool true) ∧ Below w.heap.size w w' := by
  have H1 := keep h1
  have H2 := keep h2
  have HM := keep hM
  have hne : ((fs.length : Int) != (fs.length : Int)) = false := by simp
  clear h1 h2 hM
  go_enter Try.func33, Try.ntmps33
  go_wp2_with fail
  clear hne
  go_loopw [5] (fun s wr => ∃ (i m : Nat), i ≤ fs.length ∧ s = .int .i64 i ∧ wr = w.drewN m) (fun s _ => fs.length - (intOf s).toNat)
  case atStart => exact ⟨0, 0, Nat.zero_le _, rfl, rfl⟩
  case round =>
    obtain ⟨i, m, hi, rfl, rfl⟩ := hrel
    by_cases hlt : i < fs.length
    · have z1 := H1.out.2 i hlt
      have z2 := H2.out.2 i hlt
      have b1 := HM.out fs[i] (List.getElem_mem hlt)
      generalize fs[i] = n at *
      have o1 := order_wd_self k n (by omega) (by omega)
      have hlt' : (i : Int) < (fs.length : Int) := by omega
      clear b1
      go_wp2_with fail
      go_quiet (fail)
      go_wp2_with fail
      go_roundw
      case rel => exact ⟨i + 1, _, by omega, by go_num, rfl⟩
      case measure => simp [intOf]; omega
    · obtain rfl : i = fs.length := by omega
      go_wp2_with fail
      go_ret
      exact ⟨rfl, Below.drewN _ _ _⟩

set_option maxHeartbeats 2000000 in
theorem GatherOne_ok (W H : Nat) (h : Sides W H) (x y : Int) (hp : PlaceOk x y) (k : Nat) (hk : k ≤ 10) (g c : Nat) (fs : List Int) (hl : fs.length = W * H) (M : Nat) (hM : Small fs M) (hM2 : M ≤ 10000) (w : World) (hh : FldAt w g k fs) :
    Calls Try.prog 37 #[gridV W H, .slice (some ⟨g, 0, none⟩) (W * H) c, placeV x y] w fun e w' => e = .returned (.tuple #[.float .f32 (wd single (6 + k) (gatF (cornersL W H x y) fs)), .bool true]) ∧ Below w.heap.size w w' := by
  have IF := keep (fun w => IsField_ok W H h (some ⟨g, 0, none⟩) c w)
  have IP := keep (fun w => isPlace_ok W H h _ _ hp.fin w)
  have GA := keep (fun w hh => gather_ok W H h x y hp k hk g c fs hl M hM hM2 w hh)
  have P := keep (Has.made w 25 #[.int .i64 W, .int .i64 H])
  have B0 := keep ((Below.refl w.heap.size w).alloc (Nat.le_refl _) (.cells #[.int .i64 W, .int .i64 H] 25))
  have H0 := keep (hh.beside (.cells #[.int .i64 W, .int .i64 H] 25))
  generalize gatF (cornersL W H x y) fs = G at *
  generalize W * H = n at *
  clear hp h hh hM hl
  unfold gridV placeV at *
  go_enter Try.func37, Try.ntmps37
  go_wp2_with fail
  refine (IF.out _).mono ?_
  rintro e w1 ⟨rfl, hb⟩
  have p1 := P.out.after hb
  have cg := p1.cells
  have P1 := keep p1
  have H1 := keep (H0.out.after hb)
  have B1 := keep (B0.out.trans (hb.mono B0.out.size))
  clear hb P H0 B0 IF p1
  go_wp2_with fail
  refine (IP.out _).mono ?_
  rintro e w2 ⟨rfl, hb⟩
  have p2 := P1.out.after hb
  clear cg
  have cg := p2.cells
  have H2 := keep (H1.out.after hb)
  have B2 := keep (B1.out.trans (hb.mono B1.out.size))
  clear hb P1 H1 B1 IP p2
  go_wp2_with fail
  refine (GA.out _ H2.out).mono ?_
  rintro e w3 ⟨rfl, hb⟩
  have B3 := keep (B2.out.trans (hb.mono B2.out.size))
  clear hb H2 B2 GA cg
  go_wp2_with fail
  go_ret2
  exact ⟨rfl, B3.out⟩

set_option maxHeartbeats 4000000 in
set_option maxRecDepth 20000 in
theorem GatherTwo_ok (W H : Nat) (h : Sides W H) (x y : Int) (hp : PlaceOk x y) (k : Nat) (hk : k ≤ 10) (g1 g2 : Nat) (f1 f2 : List Int) (hl1 : f1.length = W * H) (hl2 : f2.length = W * H) (M : Nat) (hM1 : Small f1 M) (hM2 : Small f2 M) (hM : M ≤ 10000) (w : World) (hh1 : FldAt w g1 k f1) (hh2 : FldAt w g2 k f2) :
    Calls Try.prog 40 #[gridV W H, .slice (some ⟨g1, 0, none⟩) (W * H) (W * H), .slice (some ⟨g2, 0, none⟩) (W * H) (W * H), placeV x y] w fun e w' => e = .returned (.tuple #[.complex .f32 (wd single (6 + k) (gatF (cornersL W H x y) f1)) (wd single (6 + k) (gatF (cornersL W H x y) f2)), .bool true]) ∧ Below w.heap.size w w' := by
  have IF := keep (fun g w => IsField_ok W H h (some ⟨g, 0, none⟩) (W * H) w)
  have IP := keep (fun w => isPlace_ok W H h _ _ hp.fin w)
  have GA := keep (fun w hh => gather_ok W H h x y hp k hk g1 (W * H) f1 hl1 M hM1 hM w hh)
  have GB := keep (fun w hh => gather_ok W H h x y hp k hk g2 (W * H) f2 hl2 M hM2 hM w hh)
  have P := keep (Has.made w 25 #[.int .i64 W, .int .i64 H])
  have B0 := keep ((Below.refl w.heap.size w).alloc (Nat.le_refl _) (.cells #[.int .i64 W, .int .i64 H] 25))
  have H0 := keep (hh1.beside (.cells #[.int .i64 W, .int .i64 H] 25))
  have K0 := keep (hh2.beside (.cells #[.int .i64 W, .int .i64 H] 25))
  generalize gatF (cornersL W H x y) f1 = G1 at *
  generalize gatF (cornersL W H x y) f2 = G2 at *
  generalize W * H = n at *
  clear hp h hh1 hh2 hM1 hM2 hl1 hl2
  unfold gridV placeV at *
  go_enter Try.func40, Try.ntmps40
  go_wp2_with fail
  refine (IF.out _ _).mono ?_
  rintro e w1 ⟨rfl, hb⟩
  have p1 := P.out.after hb
  have cg := p1.cells
  have P1 := keep p1
  have H1 := keep (H0.out.after hb)
  have K1 := keep (K0.out.after hb)
  have B1 := keep (B0.out.trans (hb.mono B0.out.size))
  clear hb P H0 K0 B0 p1
  go_wp2_with fail
  refine (IF.out _ _).mono ?_
  rintro e w2 ⟨rfl, hb⟩
  have p2 := P1.out.after hb
  clear cg
  have cg := p2.cells
  have P2 := keep p2
  have H2 := keep (H1.out.after hb)
  have K2 := keep (K1.out.after hb)
  have B2 := keep (B1.out.trans (hb.mono B1.out.size))
  clear hb P1 H1 K1 B1 IF p2
  go_wp2_with fail
  refine (IP.out _).mono ?_
  rintro e w3 ⟨rfl, hb⟩
  have p3 := P2.out.after hb
  clear cg
  have k0 := cell_regrown (p3.cells 0)
  have k1 := cell_regrown (p3.cells 1)
  have GR1 := keep (fun d os => Calls.regrown_of (GA.out _ ((H2.out.after hb).after (below_regrown w3 d os))))
  have GR2 := keep (fun d os => Calls.regrown_of (GB.out _ ((K2.out.after hb).after (below_regrown w3 d os))))
  have B3 := keep (B2.out.trans (hb.mono B2.out.size))
  clear hb P2 H2 K2 B2 IP p3 GA GB
  go_wp2_with fail
  refine wp_region_quiet_below (by as_aux_lemma => kernel_rfl) (by as_aux_lemma => kernel_rfl) ?_
  repeat (any_goals (go_big_quiet_step (first | (with_reducible exact GR1.out _ _) | (with_reducible exact GR2.out _ _))))
  refine wpQuiet_nil ?_
  intro w8 hw8
  obtain ⟨⟨d8, os8⟩, rfl⟩ := hw8
  have hb8 := below_regrown w3 d8 os8
  generalize grow (redrawn w3 d8) os8 = w8 at *
  have B8 := keep (B3.out.trans (hb8.mono B3.out.size))
  clear k0 k1 hb8
  go_wp2_with fail
  go_ret2
  exact ⟨rfl, B8.out⟩

theorem areFields_ok (W H : Nat) (h : Sides W H) (a b : Option Addr) (c d : Nat) (w : World) : Calls Try.prog 74 #[gridV W H, .slice a (W * H) c, .slice b (W * H) d] w fun e w' => e = .returned (.bool true) ∧ Below w.heap.size w w' := by
  have IF := keep (fun a c w => IsField_ok W H h a c w)
  have P := keep (Has.made w 25 #[.int .i64 W, .int .i64 H])
  have B0 := keep ((Below.refl w.heap.size w).alloc (Nat.le_refl _) (.cells #[.int .i64 W, .int .i64 H] 25))
  generalize W * H = n at *
  clear h
  unfold gridV at *
  go_enter Try.func74, Try.ntmps74
  go_wp2_with fail
  refine (IF.out _ _ _).mono ?_
  rintro e w1 ⟨rfl, hb⟩
  have p1 := P.out.after hb
  have cg := p1.cells
  have B1 := keep (B0.out.trans (hb.mono B0.out.size))
  clear hb P B0 p1
  go_wp2_with fail
  refine (IF.out _ _ _).mono ?_
  rintro e w2 ⟨rfl, hb⟩
  have B2 := keep (B1.out.trans (hb.mono B1.out.size))
  clear hb B1 IF cg
  go_wp2_with fail
  go_ret
  exact ⟨rfl, B2.out⟩

/-- The sum of the products of two fields. -/
def dotF (a b : List Int) : Int := (List.zipWith (· * ·) a b).sum
theorem dotF_take (a b : List Int) (i : Nat) (h1 : i < a.length) (h2 : i < b.length) : dotF (a.take (i + 1)) (b.take (i + 1)) = dotF (a.take i) (b.take i) + a[i] * b[i] := by
  unfold dotF
  rw [List.take_succ_eq_append_getElem h1, List.take_succ_eq_append_getElem h2, List.zipWith_append (by rw [List.length_take, List.length_take]; omega), List.sum_append]
  simp
theorem dotF_bound (M K : Nat) : ∀ (a b : List Int), Small a M → Small b K → (dotF a b).natAbs ≤ M * K * a.length
  | [], b, _, _ => by simp [dotF]
  | x :: a, [], _, _ => by simp [dotF]
  | x :: a, y :: b, h1, h2 => by
    have ih := dotF_bound M K a b (fun n hn => h1 n (List.mem_cons_of_mem _ hn)) (fun n hn => h2 n (List.mem_cons_of_mem _ hn))
    have hm := natAbs_mul_le (h1 x (List.mem_cons_self ..)) (h2 y (List.mem_cons_self ..))
    unfold dotF at *
    rw [List.zipWith_cons_cons, List.sum_cons, List.length_cons, Nat.mul_succ]
    omega

/-- A number in a wider word. -/
theorem widen_wd (k : Nat) (a : Int) (hk : k ≤ 90) (ha : a.natAbs < 16777216) : floatToFloatBits .f32 (wd single k a) .f64 = some (wd double k a) := by
  obtain ⟨m, i, hr, hs⟩ := wd_read (f := single) fit_single binade_le_single (k := k) (a := a) (by show k + 23 ≤ 149; omega) (by show a.natAbs < 16777216; omega)
  have hw : double.nearest (decide (a < 0)) m i = wd double k a := by
    by_cases h0 : a = 0
    · have hm := hs.mag_zero.2 h0
      subst h0
      rw [hm, wd_zero]
      exact nearest_zero double i
    · exact Is.unique (f := double) binade_le_double (write_is double fit_double hs (by show k + 52 ≤ 149; omega) (by show a.natAbs < 9007199254740992; omega)) (nearest_lt _ _ _ _) h0
  obtain ⟨s2, m2, i2, h2, _⟩ := wd_is double fit_double k a (by show k + 52 ≤ 149; omega) (by show a.natAbs < 9007199254740992; omega)
  unfold floatToFloatBits
  rw [if_neg (by decide)]
  rw [show FloatKind.f32.decode (wd single k a) = .number (decide (a < 0)) m i from hr]
  show (if (FloatKind.f64.decode (double.nearest (decide (a < 0)) m i)).isInfinity = true then none else some (double.nearest (decide (a < 0)) m i)) = _
  rw [hw, show FloatKind.f64.decode (wd double k a) = .number s2 m2 i2 from h2]
  rfl
theorem dot_step (k l : Nat) (hk : k ≤ 30) (hl : l ≤ 30) (S a b : Int) (hS : S.natAbs < 16777216) (ha : a.natAbs ≤ 100) (hb : b.natAbs ≤ 100000) : ∃ r, floatBits .mul .f64 (wd double k a) (wd double l b) = some r ∧ floatBits .add .f64 (wd double (k + l) S) r = some (wd double (k + l) (S + a * b)) := by
  have hm : (a * b).natAbs ≤ 100 * 100000 := natAbs_mul_le ha hb
  obtain ⟨r, e, hr, hrl⟩ := mul_is (f := double) fit_double binade_le_double (k := k) (l := l) (a := a) (b := b) (by show k + 52 ≤ 149; omega) (by show l + 52 ≤ 149; omega) (by show k + l + 52 ≤ 149; omega) (by show a.natAbs < 9007199254740992; omega) (by show b.natAbs < 9007199254740992; omega) (by show (a * b).natAbs < 9007199254740992; omega)
  exact ⟨r, e, add_is (f := double) fit_double binade_le_double hr hrl (by show k + l + 52 ≤ 149; omega) (by show S.natAbs < 9007199254740992; omega) (by show (a * b).natAbs < 9007199254740992; omega) (by show (S + a * b).natAbs < 9007199254740992; omega)⟩

set_option maxHeartbeats 2000000 in
set_option maxRecDepth 20000 in
theorem FieldDot_ok (W H : Nat) (h : Sides W H) (k l : Nat) (hk : k ≤ 30) (hl : l ≤ 30) (g1 g2 c1 c2 : Nat) (a b : List Int) (hla : a.length = W * H) (hlb : b.length = W * H) (M K : Nat) (hM : Small a M) (hK : Small b K) (hM2 : M ≤ 100) (hK2 : K ≤ 100000) (hMK : M * K * 49 < 16000000) (w : World) (ha : FldAt w g1 k a) (hb : FldAt w g2 l b) :
    Calls Try.prog 38 #[gridV W H, .slice (some ⟨g1, 0, none⟩) (W * H) c1, .slice (some ⟨g2, 0, none⟩) (W * H) c2] w fun e w' => e = .returned (.tuple #[.float .f32 (wd single (k + l) (dotF a b)), .bool true]) ∧ Below w.heap.size w w' := by
  have AF := keep (fun w => areFields_ok W H h (some ⟨g1, 0, none⟩) (some ⟨g2, 0, none⟩) c1 c2 w)
  have B0 := keep ((Below.refl w.heap.size w).alloc (Nat.le_refl _) (.cells #[.int .i64 W, .int .i64 H] 25))
  have H0 := keep (ha.beside (.cells #[.int .i64 W, .int .i64 H] 25))
  have K0 := keep (hb.beside (.cells #[.int .i64 W, .int .i64 H] 25))
  have SL := size_le W H h
  have HM := keep hM
  have HK := keep hK
  have z0 := wd_zero double (k + l)
  generalize W * H = n at *
  have DB : Kept (∀ i, i ≤ n → (dotF (a.take i) (b.take i)).natAbs < 16000000) := keep (fun i hi => by
    have h1 := dotF_bound M K (a.take i) (b.take i) (hM.take i) (hK.take i)
    have h2 : M * K * (a.take i).length ≤ M * K * 49 := Nat.mul_le_mul_left _ (by rw [List.length_take]; omega)
    omega)
  clear h ha hb hM hK hMK
  unfold gridV at *
  go_enter Try.func38, Try.ntmps38
  go_wp2_with fail
  refine (AF.out _).mono ?_
  rintro e w1 ⟨rfl, hb⟩
  have B1 := keep (B0.out.trans (hb.mono B0.out.size))
  have H1 := keep (H0.out.after hb)
  have K1 := keep (K0.out.after hb)
  clear hb B0 H0 K0 AF
  go_wp2_with fail
  go_loopw [18, 8] (fun s t wr => ∃ (i : Nat), i ≤ n ∧ s = .int .i64 i ∧ t = .float .f64 (wd double (k + l) (dotF (a.take i) (b.take i))) ∧ wr = w1) (fun s _ _ => n - (intOf s).toNat)
  case atStart => exact ⟨0, Nat.zero_le _, rfl, by rw [show dotF (a.take 0) (b.take 0) = 0 from rfl, z0], rfl⟩
  case round =>
    clear z0
    obtain ⟨i, hi, rfl, rfl, rfl⟩ := hrel
    by_cases hlt : i < n
    · have z1 := H1.out.2 i (by omega)
      have z2 := K1.out.2 i (by omega)
      have dt := dotF_take a b i (by omega) (by omega)
      have db := DB.out i hi
      have b1 := HM.out (a[i]'(by omega)) (List.getElem_mem _)
      have b2 := HK.out (b[i]'(by omega)) (List.getElem_mem _)
      generalize dotF (a.take i) (b.take i) = S at *
      generalize a[i]'(by omega) = x at *
      generalize b[i]'(by omega) = y at *
      obtain ⟨r, e1, e2⟩ := dot_step k l hk hl S x y (by omega) (by omega) (by omega)
      rw [← dt] at e2
      have f1 := run_conv32 _ _ (widen_wd k x (by omega) (by omega))
      have f2 := run_conv32 _ _ (widen_wd l y (by omega) (by omega))
      have f3 := frun e1
      have f4 := frun e2
      clear dt db b1 b2 e1 e2
      go_wp2_with fail
      go_roundw
      case rel => exact ⟨i + 1, by omega, by go_num, rfl, by trivial⟩
      case measure => simp [intOf]; omega
    · obtain rfl : i = n := by omega
      have db := DB.out i (Nat.le_refl _)
      rw [List.take_of_length_le (by omega), List.take_of_length_le (by omega)] at db ⊢
      have f5 := run_conv64 _ _ (narrow_wd (k + l) (dotF a b) (by omega) (by omega))
      clear db
      go_wp2_with fail
      go_ret2
      exact ⟨rfl, B1.out⟩
end Go.Proofs.Ytmnpijhnfdiomaa
