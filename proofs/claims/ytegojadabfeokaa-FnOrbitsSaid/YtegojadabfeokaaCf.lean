/- Contracts: the angle of a point, in turns; the angle of a complex number is that of its point. No condition. -/
import Derived.Test.YtegojadabfeokaaCe
namespace Go.Proofs.Ytegojadabfeokaa
open Go.RowKit Go.Sort Ieee
set_option linter.unusedSimpArgs false

theorem znegd (a : Nat) (w : World) : (Op.unary .neg (.float .f64 a)).run Try.prog w = .ok (.float .f64 (Op.negFloat .f64 a)) w := rfl
/-- What is handed back: one word, or another NaN's. -/
def Ang (r : Nat) (w : World) (e : Ending) (w' : World) : Prop := ∃ z, e = .returned (.float .f32 z) ∧ z < 4294967296 ∧ FEq .f32 z r ∧ Below w.heap.size w w'

set_option maxHeartbeats 2000000 in
set_option maxRecDepth 20000 in
theorem Angle_zero (y x : Nat) (h : (fin .f32 x && fin .f32 y) = true) (hx : FloatKind.f32.format.order x 0 = some .eq) (hy : FloatKind.f32.format.order y 0 = some .eq) (w : World) : Calls Try.prog 53 #[.float .f32 y, .float .f32 x] w (Ang 0 w) := by
  have q := Has.made w 25 #[.float .f32 x, .float .f32 y]
  have AF := keep (areFinite_two x y w.heap.size 2 (w.alloc (.cells #[.float .f32 x, .float .f32 y] 25)) (q.cells 0) (q.cells 1))
  rw [h] at AF
  clear q h
  go_enter Try.func53, Try.ntmps53
  go_wp2_with fail
  refine AF.out.mono ?_
  rintro e w1 ⟨rfl, m, rfl⟩
  go_wp2_with fail
  go_ret
  exact ⟨0, rfl, by omega, .inl rfl, Below.drewN_of ((Below.refl _ w).alloc (Nat.le_refl _) _) _⟩

/-- The last words of an angle. -/
theorem ends_ok (s1 s2 s3 : Bool) (q : Nat) (nq : Nm double q) (bq : Cl (V double q) 0 (p2 30)) : ∃ c1 c2 c3 r, (if s1 then floatBits .sub .f64 4598175219545276416 q = some c1 else c1 = q) ∧ (if s2 then floatBits .sub .f64 4602678819172646912 c1 = some c2 else c2 = c1) ∧ (if s3 then c3 = Op.negFloat .f64 c2 else c3 = c2) ∧ floatToFloatBits .f64 c3 .f32 = some r ∧ r < 4294967296 ∧ Nm single r := by
  obtain ⟨c1, h1, n1, b1⟩ : ∃ c1, (if s1 then floatBits .sub .f64 4598175219545276416 q = some c1 else c1 = q) ∧ Nm double c1 ∧ Cl (V double c1) 0 (p2 32) := by
    cases s1
    · exact ⟨q, by simp, nq, bq.mono (p2_le (by omega))⟩
    · obtain ⟨r, hr, nr, br⟩ := sub_some _ q 30 (by omega) quarter_V.1 quarter_V.2 nq bq
      exact ⟨r, by simpa using hr, nr, br⟩
  obtain ⟨c2, h2, n2, b2⟩ : ∃ c2, (if s2 then floatBits .sub .f64 4602678819172646912 c1 = some c2 else c2 = c1) ∧ Nm double c2 ∧ Cl (V double c2) 0 (p2 34) := by
    cases s2
    · exact ⟨c1, by simp, n1, b1.mono (p2_le (by omega))⟩
    · obtain ⟨r, hr, nr, br⟩ := sub_some _ c1 32 (by omega) halfw_V.1 halfw_V.2 n1 b1
      exact ⟨r, by simpa using hr, nr, br⟩
  obtain ⟨c3, h3, n3, b3⟩ : ∃ c3, (if s3 then c3 = Op.negFloat .f64 c2 else c3 = c2) ∧ Nm double c3 ∧ Cl (V double c3) 0 (p2 34) := by
    cases s3
    · exact ⟨c2, by simp, n2, b2⟩
    · refine ⟨_, by simp, (neg_V n2).1, ?_⟩
      rw [(neg_V n2).2]
      unfold Cl at *
      constructor <;> grind
  obtain ⟨r, hr, hl⟩ := narrow_some c3 n3 (b3.mono (p2_le (by omega)))
  exact ⟨c1, c2, c3, r, h1, h2, h3, hr, hl⟩

set_option maxHeartbeats 8000000 in
set_option maxRecDepth 20000 in
theorem Angle_some (y x : Nat) (h : (fin .f32 x && fin .f32 y) = true) (hxy : ¬ (FloatKind.f32.format.order x 0 = some .eq ∧ FloatKind.f32.format.order y 0 = some .eq)) : ∃ r, Nm single r ∧ ∀ w, Calls Try.prog 53 #[.float .f32 y, .float .f32 x] w (Ang r w) := by
  have hfx : fin .f32 x = true := by cases hq : fin .f32 x <;> rw [hq] at h <;> simp at h ⊢
  have hfy : fin .f32 y = true := by cases hq : fin .f32 y <;> rw [hq] at h <;> simp at h ⊢
  obtain ⟨nA, a0, az⟩ := abs_V hfy
  obtain ⟨nB, b0, bz⟩ := abs_V hfx
  have sz : Nm single 0 ∧ V single 0 = 0 := by
    have := V_wd (f := single) fit_single 0 0 (by decide) (by decide)
    rw [wd_zero] at this
    exact ⟨this.1, by rw [this.2]; decide +kernel⟩
  have nx : Nm single x := by
    unfold fin at hfx
    cases hd : FloatKind.f32.format.read x with
    | number s m i => exact ⟨s, m, i, hd⟩
    | infinity s => rw [hd] at hfx; cases hfx
    | nan s t => rw [hd] at hfx; cases hfx
  have ny : Nm single y := by
    unfold fin at hfy
    cases hd : FloatKind.f32.format.read y with
    | number s m i => exact ⟨s, m, i, hd⟩
    | infinity s => rw [hd] at hfy; cases hfy
    | nan s t => rw [hd] at hfy; cases hfy
  have ox : FloatKind.f32.format.order x 0 = some .eq ↔ V single x = 0 := by
    have := V_eq nx sz.1
    rw [sz.2] at this
    constructor
    · intro e; rw [show single.order x 0 = FloatKind.f32.format.order x 0 from rfl, e] at this; simpa using this.symm
    · intro e; rw [e] at this; show single.order _ 0 = some .eq; simpa using this
  have oy : FloatKind.f32.format.order y 0 = some .eq ↔ V single y = 0 := by
    have := V_eq ny sz.1
    rw [sz.2] at this
    constructor
    · intro e; rw [show single.order y 0 = FloatKind.f32.format.order y 0 from rfl, e] at this; simpa using this.symm
    · intro e; rw [e] at this; show single.order _ 0 = some .eq; simpa using this
  have hor : V double (widen y % 9223372036854775808) ≠ 0 ∨ V double (widen x % 9223372036854775808) ≠ 0 := by
    by_cases e : V double (widen x % 9223372036854775808) = 0
    · left; intro e2; exact hxy ⟨ox.2 (bz.1 e), oy.2 (az.1 e2)⟩
    · right; exact e
  have fx := run_wide hfx
  have fy := run_wide hfy
  have AX := keep (fun w => Abs_any (widen x) w (widen_lt x))
  have AY := keep (fun w => Abs_any (widen y) w (widen_lt y))
  generalize widen x % 9223372036854775808 = B at *
  generalize widen y % 9223372036854775808 = A at *
  obtain ⟨t0, ht0⟩ := quot_some nA nB hor
  have hgt := V_gt nA nB
  -- which is the greater one
  obtain ⟨s1, t, hs1, htq, nt, tp, t2⟩ : ∃ (s1 : Bool) (t : Nat), (double.order A B == some .gt) = s1 ∧ (if s1 then floatBits .quo .f64 B A = some t else t = t0) ∧ Nm double t ∧ 0 ≤ V double t ∧ V double t ≤ 2 := by
    by_cases hg : V double B < V double A
    · rw [decide_eq_true hg] at hgt
      obtain ⟨t, e, k⟩ := start_ok nB nA b0 (by grind) (Rat.le_of_lt hg)
      exact ⟨true, t, hgt, by simpa using e, k⟩
    · rw [decide_eq_false hg] at hgt
      have hp : 0 < V double B := by
        rcases hor with h | h <;> grind
      obtain ⟨t, e, k⟩ := start_ok nA nB a0 hp (by grind)
      rw [ht0] at e
      injection e with e
      subst e
      exact ⟨false, _, hgt, by simp, k⟩
  clear hgt hor az bz nA nB a0 b0 ox oy sz nx ny
  have TS := keep (TJ_steps t nt tp t2)
  obtain ⟨k1, k2, k3⟩ := TJ_ok t nt tp t2 3
  obtain ⟨u, hu, nu, u0, u5⟩ := square_ok _ k1 k2 k3
  have PS := keep (PJ_next u nu u0 u5)
  obtain ⟨np, bp⟩ := PJ_ok u nu u0 u5 8 (Nat.le_refl _)
  obtain ⟨ea, eb, q, he1, he2, he3, nq, bq⟩ := angle_end (TJ t 3) (PJ u 8) k1 k2 k3 np bp
  obtain ⟨s2, hs2⟩ : ∃ s2 : Bool, (FloatKind.f32.format.order x 0 == some .lt) = s2 := ⟨_, rfl⟩
  obtain ⟨s3, hs3⟩ : ∃ s3 : Bool, (FloatKind.f32.format.order y 0 == some .lt) = s3 := ⟨_, rfl⟩
  obtain ⟨c1, c2, c3, r, hc1, hc2, hc3, hr, hl⟩ := ends_ok s1 s2 s3 q nq bq
  refine ⟨r, hl.2, fun w => ?_⟩
  have q0 := Has.made w 25 #[.float .f32 x, .float .f32 y]
  have AF := keep (areFinite_two x y w.heap.size 2 (w.alloc (.cells #[.float .f32 x, .float .f32 y] 25)) (q0.cells 0) (q0.cells 1))
  rw [h] at AF
  have r1 := zrun ht0
  have r2 := zrun hu
  have r3 := zrun he1
  have r4 := zrun he2
  have r5 := zrun he3
  have r6 := zconv64 _ _ hr
  have HG := keep hs1
  have HC1 := keep hc1
  have HC2 := keep hc2
  have HC3 := keep hc3
  have HTQ := keep htq
  have H2 := keep hs2
  have H3 := keep hs3
  have NXY := keep hxy
  have HLT := keep hl.1
  have SQ := keep (fun a r (h : double.sqrt a = some r) w => zSqrt a r h w)
  have BL := keep (show Below w.heap.size w (w.alloc (.cells #[.float .f32 x, .float .f32 y] 25)) from (Below.refl _ w).alloc (Nat.le_refl _) _)
  clear q0 h ht0 hu he1 he2 he3 hr hs1 hc1 hc2 hc3 htq hs2 hs3 hxy hl nt tp t2 k1 k2 k3 nu u0 u5 np bp nq bq hfx hfy
  have hz : (FloatKind.f32.format.order x 0 = some .eq ∧ (FloatKind.f32.format.order y 0 == some .eq) = false) ∨ ¬ FloatKind.f32.format.order x 0 = some .eq := by
    by_cases e : FloatKind.f32.format.order x 0 = some .eq
    · exact .inl ⟨e, by rw [beq_eq_false_iff_ne]; exact fun e2 => NXY.out ⟨e, e2⟩⟩
    · exact .inr e
  clear NXY
  go_enter Try.func53, Try.ntmps53
  go_wp2_with fail
  refine AF.out.mono ?_
  rintro e w1 ⟨rfl, m, rfl⟩
  clear AF
  have BW := keep (Below.drewN_of BL.out m)
  clear BL
  generalize (w.alloc (.cells #[.float .f32 x, .float .f32 y] 25)).drewN m = wB at *
  rcases hz with ⟨hx0, hy0⟩ | hx0
  all_goals
    go_wp2_with fail
    refine (AY.out _).mono ?_
    rintro e w' ⟨rfl, hw⟩
    have hw := hw.symm
    subst hw
    go_wp2_with fail
    refine (AX.out _).mono ?_
    rintro e w' ⟨rfl, hw⟩
    have hw := hw.symm
    subst hw
    cases s1
    · have hg2 := HTQ.out
      have hg3 := HC1.out
      simp only [Bool.false_eq_true, if_false] at hg2 hg3
      have hg1 : (FloatKind.f64.format.order A B == some .gt) = false := HG.out
      subst hg2
      subst hg3
      clear HG HTQ HC1
      go_wp2_with fail
      go_loopw [7, 42] (fun tt ii wr => ∃ i : Nat, i ≤ 3 ∧ tt = .float .f64 (TJ t i) ∧ ii = .int .i64 i ∧ wr = wB) (fun _ ii _ => 3 - (intOf ii).toNat)
      case atStart => exact ⟨0, by omega, rfl, rfl, rfl⟩
      case round =>
        obtain ⟨i, hi, rfl, rfl, hwr⟩ := hrel
        have hwr := hwr.symm
        subst hwr
        by_cases hlt : i < 3
        · obtain ⟨z1, z2, z3, z4, e1, e2, e3, e4, e5⟩ := TS.out i
          unfold W1 at e2 e4
          have f1 := zrun e1
          have f2 := zrun e2
          have f4 := zrun e4
          have f5 := zrun e5
          have SQ1 := keep (SQ.out z2 z3 e3)
          have hltI : (i : Int) < 3 := by omega
          clear e1 e2 e3 e4 e5
          generalize TJ t i = T0 at *
          generalize hT1 : TJ t (i + 1) = T1 at *
          go_wp2_with fail
          refine (SQ1.out _).mono ?_
          rintro e w' ⟨rfl, hw⟩
          have hw := hw.symm
          subst hw
          go_wp2_with fail
          go_roundw
          case rel => exact ⟨i + 1, by omega, by rw [hT1], by go_num, by first | trivial | rfl⟩
          case measure => simp [intOf]; omega
        · obtain rfl : i = 3 := by omega
          go_wp2_with fail
          clear TS SQ
          go_loopw [10, 9] (fun kk pp wr => ∃ j : Nat, j ≤ 8 ∧ kk = .int .i64 (15 - 2 * (j : Int)) ∧ pp = .float .f64 (PJ u j) ∧ wr = wB) (fun kk _ _ => (intOf kk + 1).toNat)
          case atStart => exact ⟨0, by omega, rfl, rfl, rfl⟩
          case round =>
            obtain ⟨j, hj, rfl, rfl, hwr⟩ := hrel
            have hwr := hwr.symm
            subst hwr
            by_cases hlt : j < 8
            · obtain ⟨z1, e1, e2⟩ := PS.out j hlt
              have e3 := (akk_ok j hlt).1
              unfold W1 at e3
              have f1 := zrun e1
              have f2 := zrun e2
              have f3 := zrun e3
              have hge : (1 : Int) ≤ 15 - 2 * (j : Int) := by omega
              have hw2 : IntKind.i64.wrap (15 - 2 * (j : Int) - 2) = 15 - 2 * ((j + 1 : Nat) : Int) := by
                rw [IntWalk.i64_in _ ⟨by omega, by omega⟩]; omega
              have hme : ((15 - 2 * ((j + 1 : Nat) : Int)) + 1).toNat < (15 - 2 * (j : Int) + 1).toNat := by omega
              clear e1 e2 e3
              generalize hk : (15 - 2 * (j : Int)) = K at *
              generalize hk2 : (15 - 2 * ((j + 1 : Nat) : Int)) = K2 at *
              generalize PJ u j = P0 at *
              generalize hp1 : PJ u (j + 1) = P1 at *
              generalize akk j = CK at *
              go_wp2_with fail
              go_roundw
              case rel => exact ⟨j + 1, by omega, by rw [hk2], by rw [hp1], by first | trivial | rfl⟩
              case measure => simpa [intOf] using hme
            · obtain rfl : j = 8 := by omega
              have hnge : ¬ (1 : Int) ≤ 15 - 2 * ((8 : Nat) : Int) := by omega
              have hc2 := HC2.out
              have hc3 := HC3.out
              cases s2
              all_goals
                simp only [Bool.false_eq_true, if_false, if_true] at hc2
                have h2 : (FloatKind.f32.format.order x 0 == some .lt) = _ := H2.out
                first
                  | (subst hc2; skip)
                  | have rc2 := zrun hc2
                cases s3
                all_goals
                  simp only [Bool.false_eq_true, if_false, if_true] at hc3
                  have h3 : (FloatKind.f32.format.order y 0 == some .lt) = _ := H3.out
                  subst hc3
                  first
                    | (exfalso; rw [hx0] at h2; exact absurd h2 (by decide))
                    | (have rn := znegd c2
                       go_wp2_with fail
                       go_ret
                       exact ⟨_, rfl, HLT.out, .inl rfl, BW.out⟩)
                    | (have rn := znegd c1
                       go_wp2_with fail
                       go_ret
                       exact ⟨_, rfl, HLT.out, .inl rfl, BW.out⟩)
                    | (have rn := znegd q
                       go_wp2_with fail
                       go_ret
                       exact ⟨_, rfl, HLT.out, .inl rfl, BW.out⟩)
                    | (go_wp2_with fail
                       go_ret
                       exact ⟨_, rfl, HLT.out, .inl rfl, BW.out⟩)
    · have hg2 := HTQ.out
      have hg3 := HC1.out
      simp only [if_true] at hg2 hg3
      have hg1 : (FloatKind.f64.format.order A B == some .gt) = true := HG.out
      have rq := zrun hg2
      have rc1 := zrun hg3
      clear HG HTQ HC1 hg2 hg3
      go_wp2_with fail
      go_loopw [7, 42] (fun tt ii wr => ∃ i : Nat, i ≤ 3 ∧ tt = .float .f64 (TJ t i) ∧ ii = .int .i64 i ∧ wr = wB) (fun _ ii _ => 3 - (intOf ii).toNat)
      case atStart => exact ⟨0, by omega, rfl, rfl, rfl⟩
      case round =>
        obtain ⟨i, hi, rfl, rfl, hwr⟩ := hrel
        have hwr := hwr.symm
        subst hwr
        by_cases hlt : i < 3
        · obtain ⟨z1, z2, z3, z4, e1, e2, e3, e4, e5⟩ := TS.out i
          unfold W1 at e2 e4
          have f1 := zrun e1
          have f2 := zrun e2
          have f4 := zrun e4
          have f5 := zrun e5
          have SQ1 := keep (SQ.out z2 z3 e3)
          have hltI : (i : Int) < 3 := by omega
          clear e1 e2 e3 e4 e5
          generalize TJ t i = T0 at *
          generalize hT1 : TJ t (i + 1) = T1 at *
          go_wp2_with fail
          refine (SQ1.out _).mono ?_
          rintro e w' ⟨rfl, hw⟩
          have hw := hw.symm
          subst hw
          go_wp2_with fail
          go_roundw
          case rel => exact ⟨i + 1, by omega, by rw [hT1], by go_num, by first | trivial | rfl⟩
          case measure => simp [intOf]; omega
        · obtain rfl : i = 3 := by omega
          go_wp2_with fail
          clear TS SQ
          go_loopw [10, 9] (fun kk pp wr => ∃ j : Nat, j ≤ 8 ∧ kk = .int .i64 (15 - 2 * (j : Int)) ∧ pp = .float .f64 (PJ u j) ∧ wr = wB) (fun kk _ _ => (intOf kk + 1).toNat)
          case atStart => exact ⟨0, by omega, rfl, rfl, rfl⟩
          case round =>
            obtain ⟨j, hj, rfl, rfl, hwr⟩ := hrel
            have hwr := hwr.symm
            subst hwr
            by_cases hlt : j < 8
            · obtain ⟨z1, e1, e2⟩ := PS.out j hlt
              have e3 := (akk_ok j hlt).1
              unfold W1 at e3
              have f1 := zrun e1
              have f2 := zrun e2
              have f3 := zrun e3
              have hge : (1 : Int) ≤ 15 - 2 * (j : Int) := by omega
              have hw2 : IntKind.i64.wrap (15 - 2 * (j : Int) - 2) = 15 - 2 * ((j + 1 : Nat) : Int) := by
                rw [IntWalk.i64_in _ ⟨by omega, by omega⟩]; omega
              have hme : ((15 - 2 * ((j + 1 : Nat) : Int)) + 1).toNat < (15 - 2 * (j : Int) + 1).toNat := by omega
              clear e1 e2 e3
              generalize hk : (15 - 2 * (j : Int)) = K at *
              generalize hk2 : (15 - 2 * ((j + 1 : Nat) : Int)) = K2 at *
              generalize PJ u j = P0 at *
              generalize hp1 : PJ u (j + 1) = P1 at *
              generalize akk j = CK at *
              go_wp2_with fail
              go_roundw
              case rel => exact ⟨j + 1, by omega, by rw [hk2], by rw [hp1], by first | trivial | rfl⟩
              case measure => simpa [intOf] using hme
            · obtain rfl : j = 8 := by omega
              have hnge : ¬ (1 : Int) ≤ 15 - 2 * ((8 : Nat) : Int) := by omega
              have hc2 := HC2.out
              have hc3 := HC3.out
              cases s2
              all_goals
                simp only [Bool.false_eq_true, if_false, if_true] at hc2
                have h2 : (FloatKind.f32.format.order x 0 == some .lt) = _ := H2.out
                first
                  | (subst hc2; skip)
                  | have rc2 := zrun hc2
                cases s3
                all_goals
                  simp only [Bool.false_eq_true, if_false, if_true] at hc3
                  have h3 : (FloatKind.f32.format.order y 0 == some .lt) = _ := H3.out
                  subst hc3
                  first
                    | (exfalso; rw [hx0] at h2; exact absurd h2 (by decide))
                    | (have rn := znegd c2
                       go_wp2_with fail
                       go_ret
                       exact ⟨_, rfl, HLT.out, .inl rfl, BW.out⟩)
                    | (have rn := znegd c1
                       go_wp2_with fail
                       go_ret
                       exact ⟨_, rfl, HLT.out, .inl rfl, BW.out⟩)
                    | (have rn := znegd q
                       go_wp2_with fail
                       go_ret
                       exact ⟨_, rfl, HLT.out, .inl rfl, BW.out⟩)
                    | (go_wp2_with fail
                       go_ret
                       exact ⟨_, rfl, HLT.out, .inl rfl, BW.out⟩)

theorem AngleOf_of (y x r : Nat) (h : ∀ w, Calls Try.prog 53 #[.float .f32 y, .float .f32 x] w (Ang r w)) (w : World) : Calls Try.prog 24 #[.complex .f32 x y] w (Ang r w) := by
  have H := keep h
  clear h
  go_enter Try.func24, Try.ntmps24
  go_wp2_with fail
  refine (H.out _).mono ?_
  rintro e w' ⟨z, rfl, hz, hf, hb⟩
  have HB := keep hb
  have HF := keep hf
  clear hb hf
  go_wp2_with fail
  go_ret
  exact ⟨z, rfl, hz, HF.out, HB.out⟩
end Go.Proofs.Ytegojadabfeokaa
