/- Contracts: numbers of fields at places; sums of products of fields; equal fields. Contracts: fields copied, scaled, added. -/
import Derived.Test.YtdonmboidpppmaaMa
namespace Go.Proofs.Ytdonmboidpppmaa
open Go.RowKit Go.Sort Ieee
set_option linter.unusedSimpArgs false

set_option maxHeartbeats 4000000 in
set_option maxRecDepth 20000 in
theorem GatherTwo_ok (W H : Nat) (h : Sides W H) (x y : Int) (hp : PlaceOk x y) (k : Nat) (hk : k ≤ 10) (g1 g2 : Nat) (f1 f2 : List Int) (hl1 : f1.length = W * H) (hl2 : f2.length = W * H) (M : Nat) (hM1 : Small f1 M) (hM2 : Small f2 M) (hM : M ≤ 10000) (w : World) (hh1 : FldAt w g1 k f1) (hh2 : FldAt w g2 k f2) :
    Calls Try.prog 11 #[gridV W H, .slice (some ⟨g1, 0, none⟩) (W * H) (W * H), .slice (some ⟨g2, 0, none⟩) (W * H) (W * H), placeV x y] w fun e w' => e = .returned (.tuple #[.complex .f32 (wd single (6 + k) (gatF (cornersL W H x y) f1)) (wd single (6 + k) (gatF (cornersL W H x y) f2)), .bool true]) ∧ Below w.heap.size w w' := by
  have IF := keep (fun g w => IsField_ok W H h (some ⟨g, 0, none⟩) (W * H) w)
  have IP := keep (fun w => isPlace_ok W H h _ _ hp.fin w)
  have GA := keep (fun w hh => gather_ok W H h x y hp k hk g1 (W * H) f1 hl1 M hM1 hM w hh)
  have GB := keep (fun w hh => gather_ok W H h x y hp k hk g2 (W * H) f2 hl2 M hM2 hM w hh)
  have P := keep (Has.made w 25 #[.int .i64 W, .int .i64 H])
  have B0 := keep ((Below.refl w.heap.size w).alloc (Nat.le_refl _) (.cells #[.int .i64 W, .int .i64 H] 25))
  have H0 := keep (hh1.beside (.cells #[.int .i64 W, .int .i64 H] 25))
  have K0 := keep (hh2.beside (.cells #[.int .i64 W, .int .i64 H] 25))
  generalize gatF (cornersL W H x y) f1 = G1 at *
  generalize gatF (cornersL W H x y) f2 = G2 at *
  generalize W * H = n at *
  clear hp h hh1 hh2 hM1 hM2 hl1 hl2
  unfold gridV placeV at *
  go_enter Try.func11, Try.ntmps11
  go_wp2_with fail
  refine (IF.out _ _).mono ?_
  rintro e w1 ⟨rfl, hb⟩
  have p1 := P.out.after hb
  have cg := p1.cells
  have P1 := keep p1
  have H1 := keep (H0.out.after hb)
  have K1 := keep (K0.out.after hb)
  have B1 := keep (B0.out.trans (hb.mono B0.out.size))
  clear hb P H0 K0 B0 p1
  go_wp2_with fail
  refine (IF.out _ _).mono ?_
  rintro e w2 ⟨rfl, hb⟩
  have p2 := P1.out.after hb
  clear cg
  have cg := p2.cells
  have P2 := keep p2
  have H2 := keep (H1.out.after hb)
  have K2 := keep (K1.out.after hb)
  have B2 := keep (B1.out.trans (hb.mono B1.out.size))
  clear hb P1 H1 K1 B1 IF p2
  go_wp2_with fail
  refine (IP.out _).mono ?_
  rintro e w3 ⟨rfl, hb⟩
  have p3 := P2.out.after hb
  clear cg
  have k0 := cell_regrown (p3.cells 0)
  have k1 := cell_regrown (p3.cells 1)
  have GR1 := keep (fun d os => Calls.regrown_of (GA.out _ ((H2.out.after hb).after (below_regrown w3 d os))))
  have GR2 := keep (fun d os => Calls.regrown_of (GB.out _ ((K2.out.after hb).after (below_regrown w3 d os))))
  have B3 := keep (B2.out.trans (hb.mono B2.out.size))
  clear hb P2 H2 K2 B2 IP p3 GA GB
  go_wp2_with fail
  refine wp_region_quiet_below (by as_aux_lemma => kernel_rfl) (by as_aux_lemma => kernel_rfl) ?_
  repeat (any_goals (go_big_quiet_step (first | (with_reducible exact GR1.out _ _) | (with_reducible exact GR2.out _ _))))
  refine wpQuiet_nil ?_
  intro w8 hw8
  obtain ⟨⟨d8, os8⟩, rfl⟩ := hw8
  have hb8 := below_regrown w3 d8 os8
  generalize grow (redrawn w3 d8) os8 = w8 at *
  have B8 := keep (B3.out.trans (hb8.mono B3.out.size))
  clear k0 k1 hb8
  go_wp2_with fail
  go_ret2
  exact ⟨rfl, B8.out⟩

theorem areFields_ok (W H : Nat) (h : Sides W H) (a b : Option Addr) (c d : Nat) (w : World) : Calls Try.prog 62 #[gridV W H, .slice a (W * H) c, .slice b (W * H) d] w fun e w' => e = .returned (.bool true) ∧ Below w.heap.size w w' := by
  have IF := keep (fun a c w => IsField_ok W H h a c w)
  have P := keep (Has.made w 25 #[.int .i64 W, .int .i64 H])
  have B0 := keep ((Below.refl w.heap.size w).alloc (Nat.le_refl _) (.cells #[.int .i64 W, .int .i64 H] 25))
  generalize W * H = n at *
  clear h
  unfold gridV at *
  go_enter Try.func62, Try.ntmps62
  go_wp2_with fail
  refine (IF.out _ _ _).mono ?_
  rintro e w1 ⟨rfl, hb⟩
  have p1 := P.out.after hb
  have cg := p1.cells
  have B1 := keep (B0.out.trans (hb.mono B0.out.size))
  clear hb P B0 p1
  go_wp2_with fail
  refine (IF.out _ _ _).mono ?_
  rintro e w2 ⟨rfl, hb⟩
  have B2 := keep (B1.out.trans (hb.mono B1.out.size))
  clear hb B1 IF cg
  go_wp2_with fail
  go_ret
  exact ⟨rfl, B2.out⟩

/-- The sum of the products of two fields. -/
def dotF (a b : List Int) : Int := (List.zipWith (· * ·) a b).sum
theorem dotF_take (a b : List Int) (i : Nat) (h1 : i < a.length) (h2 : i < b.length) : dotF (a.take (i + 1)) (b.take (i + 1)) = dotF (a.take i) (b.take i) + a[i] * b[i] := by
  unfold dotF
  rw [List.take_succ_eq_append_getElem h1, List.take_succ_eq_append_getElem h2, List.zipWith_append (by rw [List.length_take, List.length_take]; omega), List.sum_append]
  simp
theorem dotF_bound (M K : Nat) : ∀ (a b : List Int), Small a M → Small b K → (dotF a b).natAbs ≤ M * K * a.length
  | [], b, _, _ => by simp [dotF]
  | x :: a, [], _, _ => by simp [dotF]
  | x :: a, y :: b, h1, h2 => by
    have ih := dotF_bound M K a b (fun n hn => h1 n (List.mem_cons_of_mem _ hn)) (fun n hn => h2 n (List.mem_cons_of_mem _ hn))
    have hm := natAbs_mul_le (h1 x (List.mem_cons_self ..)) (h2 y (List.mem_cons_self ..))
    unfold dotF at *
    rw [List.zipWith_cons_cons, List.sum_cons, List.length_cons, Nat.mul_succ]
    omega

/-- A number in a wider word. -/
theorem widen_wd (k : Nat) (a : Int) (hk : k ≤ 90) (ha : a.natAbs < 16777216) : floatToFloatBits .f32 (wd single k a) .f64 = some (wd double k a) := by
  obtain ⟨m, i, hr, hs⟩ := wd_read (f := single) fit_single binade_le_single (k := k) (a := a) (by show k + 23 ≤ 149; omega) (by show a.natAbs < 16777216; omega)
  have hw : double.nearest (decide (a < 0)) m i = wd double k a := by
    by_cases h0 : a = 0
    · have hm := hs.mag_zero.2 h0
      subst h0
      rw [hm, wd_zero]
      exact nearest_zero double i
    · exact Is.unique (f := double) binade_le_double (write_is double fit_double hs (by show k + 52 ≤ 149; omega) (by show a.natAbs < 9007199254740992; omega)) (nearest_lt _ _ _ _) h0
  obtain ⟨s2, m2, i2, h2, _⟩ := wd_is double fit_double k a (by show k + 52 ≤ 149; omega) (by show a.natAbs < 9007199254740992; omega)
  unfold floatToFloatBits
  rw [if_neg (by decide)]
  rw [show FloatKind.f32.decode (wd single k a) = .number (decide (a < 0)) m i from hr]
  show (if (FloatKind.f64.decode (double.nearest (decide (a < 0)) m i)).isInfinity = true then none else some (double.nearest (decide (a < 0)) m i)) = _
  rw [hw, show FloatKind.f64.decode (wd double k a) = .number s2 m2 i2 from h2]
  rfl
theorem dot_step (k l : Nat) (hk : k ≤ 30) (hl : l ≤ 30) (S a b : Int) (hS : S.natAbs < 16777216) (ha : a.natAbs ≤ 100) (hb : b.natAbs ≤ 100000) : ∃ r, floatBits .mul .f64 (wd double k a) (wd double l b) = some r ∧ floatBits .add .f64 (wd double (k + l) S) r = some (wd double (k + l) (S + a * b)) := by
  have hm : (a * b).natAbs ≤ 100 * 100000 := natAbs_mul_le ha hb
  obtain ⟨r, e, hr, hrl⟩ := mul_is (f := double) fit_double binade_le_double (k := k) (l := l) (a := a) (b := b) (by show k + 52 ≤ 149; omega) (by show l + 52 ≤ 149; omega) (by show k + l + 52 ≤ 149; omega) (by show a.natAbs < 9007199254740992; omega) (by show b.natAbs < 9007199254740992; omega) (by show (a * b).natAbs < 9007199254740992; omega)
  exact ⟨r, e, add_is (f := double) fit_double binade_le_double hr hrl (by show k + l + 52 ≤ 149; omega) (by show S.natAbs < 9007199254740992; omega) (by show (a * b).natAbs < 9007199254740992; omega) (by show (S + a * b).natAbs < 9007199254740992; omega)⟩

end Go.Proofs.Ytdonmboidpppmaa
namespace Go.Proofs.Ytdonmboidpppmaa
open Go.RowKit Go.Sort Ieee
set_option linter.unusedSimpArgs false

/-- The cells of a field as a list. -/
def fList (k : Nat) (fs : List Int) : List Value := fs.map fun n => Value.float .f32 (wd single k n)
theorem fList_length (k : Nat) (fs : List Int) : (fList k fs).length = fs.length := List.length_map _
theorem fList_at (k : Nat) (fs : List Int) (i : Nat) (h : i < fs.length) : (fList k fs)[i]? = some (.float .f32 (wd single k fs[i])) := by
  unfold fList
  rw [List.getElem?_map, List.getElem?_eq_getElem h]
  rfl
theorem fList_one (k : Nat) (fs : List Int) : ∀ u ∈ fList k fs, u.oneCell' = true := by
  intro u hu
  obtain ⟨n, _, rfl⟩ := List.mem_map.1 hu
  rfl
theorem own_fld {w : World} {B g c k : Nat} {fs : List Int} (h : w.ownsRow B 32 1 (.slice (some ⟨g, 0, none⟩) fs.length c) fs.length (fList k fs)) : FldAt w g k fs := by
  refine ⟨(h.lt g rfl).2, fun i hi => ?_⟩
  have h2 := h.cells (g := g) rfl i _ (fList_at k fs i hi)
  rwa [Addr.add_lit, Nat.zero_add] at h2

theorem eql_nilF (a : Option Addr) (l c : Nat) (w : World) : (binOp .eql 29 (.slice a l c) (.slice none 0 0)).run Try.prog w = .ok (.bool a.isNone) w := by
  have h : (binOp .eql 29 (.slice a l c) (.slice none 0 0)) = (do let b ← Op.equal 29 (.slice a l c) (.slice none 0 0); pure (.bool b)) := rfl
  rw [h]
  simp only [Sem.run_bind, Sem.run_pure, run_equal_slice_nil w 29 32 a l c Try.underlying29, Result.andThen_ok]

end Go.Proofs.Ytdonmboidpppmaa
