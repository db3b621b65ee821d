/- Contracts: roots, lengths of complex numbers, the slowest of a list. Contracts: products and quotients of complex numbers by real ones, differences, powers. Contract: how far speeds are spread is a number that is not negative. -/
import Derived.Test.YtnmdgbnophclnaaQe
import Derived.Laws.Externs
import Derived.Outline
import Derived.Test.YtnmdgbnophclnaaMb
namespace Go.Proofs.Ytnmdgbnophclnaa
open Go.RowKit Go.Sort Ieee
set_option linter.unusedSimpArgs false

theorem run_sqrt (q r : Nat) (h : double.sqrt q = some r) (w : World) : (callFunc 117 #[.float .f64 q]).run Try.prog w = .ok (.value (.float .f64 r)) w := by
  rw [run_callFunc_extern (e := Extern.MathSqrt.sqrt) Try.func117 (by kernel_rfl) (by kernel_rfl) (by kernel_rfl) (by kernel_rfl)]
  have hd : FloatKind.f64.format.sqrt q = some r := h
  have e : Extern.MathSqrt.sqrt #[.float .f64 q] = pure (.float .f64 r) := by
    show (match FloatKind.f64.format.sqrt q with
      | some r => pure (.float .f64 r)
      | none => do pure (.float .f64 (← choose (.nanBits .f64 q q)))) = (pure (.float .f64 r) : Sem Value)
    rw [hd]
  rw [e]
  rfl

set_option maxHeartbeats 1000000 in
theorem Sqrt_any (q r : Nat) (h : double.sqrt q = some r) (w : World) : Calls Try.prog 85 #[.float .f64 q] w fun e w' => e = .returned (.float .f64 r) ∧ w' = w := by
  have hr := run_sqrt q r h
  clear h
  go_enter Try.func85, Try.ntmps85
  go_wp2_with fail
  go_ret
  exact ⟨rfl, rfl⟩

set_option maxHeartbeats 1000000 in
theorem LongOf_any (a b A B p q r R L : Nat) (h1 : floatToFloatBits .f32 a .f64 = some A) (h2 : floatToFloatBits .f32 b .f64 = some B) (h3 : floatBits .mul .f64 A A = some p) (h4 : floatBits .mul .f64 B B = some q) (h5 : floatBits .add .f64 p q = some r) (h6 : double.sqrt r = some R) (h7 : floatToFloatBits .f64 R .f32 = some L) (w : World) : Calls Try.prog 41 #[.complex .f32 a b] w fun e w' => e = .returned (.float .f32 L) ∧ w' = w := by
  have P := keep (fun w => power_any a b A B p q r h1 h2 h3 h4 h5 w)
  have S := keep (fun w => Sqrt_any r R h6 w)
  have f7 := run_conv64 R L h7
  clear h1 h2 h3 h4 h5 h6 h7
  go_enter Try.func41, Try.ntmps41
  go_wp2_with fail
  refine (P.out _).mono ?_
  rintro e w' ⟨rfl, rfl⟩
  go_wp2_with fail
  refine (S.out _).mono ?_
  rintro e w' ⟨rfl, rfl⟩
  go_wp2_with fail
  go_ret
  exact ⟨rfl, rfl⟩

/-- The length of a speed, by its power in 64ths. -/
def lw (n : Int) : Nat := ((double.sqrt (wd double 6 n)).bind fun R => floatToFloatBits .f64 R .f32).getD 0
theorem lw_ok (n : Int) (h0 : 0 ≤ n) (h1 : n ≤ 128) : ∃ R, double.sqrt (wd double 6 n) = some R ∧ floatToFloatBits .f64 R .f32 = some (lw n) ∧ Nm single (lw n) ∧ 0 ≤ V single (lw n) := by
  obtain ⟨n1, v1⟩ := V_wd (f := double) fit_double 6 n (by decide) (by show n.natAbs < 9007199254740992; omega)
  have e1 : p2 1 = 2 := p2_one
  have e6 : p2 (-((6 : Nat) : Int)) = 1 / 64 := by decide +kernel
  have c0 : (0 : Rat) ≤ (n : Rat) := Rat.intCast_nonneg.2 h0
  have c1 : (n : Rat) ≤ 128 := by
    have := Rat.intCast_le_intCast.2 h1
    simpa using this
  rw [e6] at v1
  have hz : V double (wd double 6 n) = 0 → wd double 6 n = 0 := by
    intro h
    have h2 : (n : Rat) = 0 := by rw [v1] at h; grind
    have h3 : n = 0 := by simpa using h2
    rw [h3, wd_zero]
  obtain ⟨R, hR, nR, R0, _, R2⟩ := sqrt_near good_double n1 (by rw [v1]; grind) hz 1 (by rw [v1, e1]; grind) (ex_double (by omega) (by omega))
  have u : ulp double (1 + 2) ≤ 1 := by decide +kernel
  have b2 := R2 2 (by decide) (by rw [v1]; grind)
  have e2 : p2 2 = 4 := by decide +kernel
  obtain ⟨L, hL, nL, _, sL⟩ := narrow_V nR 2 (by rw [e2]; unfold Cl; constructor <;> grind) (ex_single (by omega) (by omega))
  have el : lw n = L := by unfold lw; rw [hR]; show (floatToFloatBits .f64 R .f32).getD 0 = L; rw [hL]; rfl
  rw [el]
  exact ⟨R, hR, hL, nL, sL R0⟩

def pwOf (p : GP) : Int := p.u * p.u + p.v * p.v
theorem pw_bound (p : GP) (h : p.ok) : 0 ≤ pwOf p ∧ pwOf p ≤ 128 := by
  obtain ⟨h1, h2, ⟨u0, u1⟩, ⟨v0, v1⟩, h5, h6⟩ := h
  have a := sq_bound p.u u0 u1
  have b := sq_bound p.v v0 v1
  unfold pwOf
  omega
theorem LongOf_speed (p : GP) (h : p.ok) (w : World) : Calls Try.prog 41 #[.complex .f32 (wd single 3 p.u) (wd single 3 p.v)] w fun e w' => e = .returned (.float .f32 (lw (pwOf p))) ∧ w' = w := by
  obtain ⟨P0, P1⟩ := pw_bound p h
  obtain ⟨R, e1, e2, _, _⟩ := lw_ok (pwOf p) P0 P1
  obtain ⟨h1, h2, ⟨u0, u1⟩, ⟨v0, v1⟩, h5, h6⟩ := h
  obtain ⟨D, hD, sD⟩ := speed_square false p.u u0 u1
  obtain ⟨E, hE, sE⟩ := speed_square false p.v v0 v1
  have a := sq_bound p.u u0 u1
  have b := sq_bound p.v v0 v1
  rw [show speedW false p.u = wd single 3 p.u by unfold speedW; rw [if_neg (by decide)]] at hD
  rw [show speedW false p.v = wd single 3 p.v by unfold speedW; rw [if_neg (by decide)]] at hE
  exact LongOf_any _ _ D E _ _ _ R _ hD hE sD sE (fadd64 (by omega) (by omega) (by omega)) e1 e2 w

/-- No length is less than this one. -/
def Least (L : Nat) (gs : List GP) : Prop := Nm single L ∧ ∀ p ∈ gs, V single L ≤ V single (lw (pwOf p))
theorem Least.not_lss {L : Nat} {gs : List GP} (h : Least L gs) (hok : ∀ p ∈ gs, p.ok) : ∀ p ∈ gs, (FloatKind.f32.format.order (lw (pwOf p)) L == some .lt) = false := by
  intro p hp
  obtain ⟨P0, P1⟩ := pw_bound p (hok p hp)
  obtain ⟨R, _, _, n1, _⟩ := lw_ok (pwOf p) P0 P1
  rw [show FloatKind.f32.format.order (lw (pwOf p)) L = single.order (lw (pwOf p)) L from rfl, V_lt n1 h.1]
  have := h.2 p hp
  simp only [decide_eq_false_iff_not]
  grind

theorem fin_Nm {b : Nat} (h : Nm single b) : fin .f32 b = true := by
  obtain ⟨s, m, i, h⟩ := h
  unfold fin
  rw [show FloatKind.f32.format.read b = .number s m i from h]

set_option maxHeartbeats 2000000 in
set_option maxRecDepth 20000 in
theorem CoolestOf_ok (B : Nat) (v : Value) (gs : List GP) (w : World) (h : w.ownsRow B 52 4 v gs.length (psCells (gs.map GP.pd))) (hok : ∀ p ∈ gs, p.ok) (hN : gs.length ≤ 6) :
    Calls Try.prog 39 #[v] w fun e w' => ∃ (f L : Nat), (0 < gs.length → f < gs.length ∧ Least L gs) ∧ e = .returned (.tuple #[.int .i64 f, .float .f32 L, .bool (decide (0 < gs.length))]) ∧ Below w.heap.size w w' := by
  have AP := keep (Areg_ok B v gs w h hok hN)
  obtain ⟨A, c, rfl, hA⟩ := gown_form h
  have HA := keep hA
  have HO := keep hok
  have LO := keep (fun p hp w => LongOf_speed p hp w)
  clear h hA hok
  by_cases hz : gs.length = 0
  · have hzd : decide (0 < gs.length) = false := decide_eq_false (by omega)
    have HZ := keep hzd
    rw [hz] at AP
    rw [hz]
    clear hz hzd
    go_enter Try.func39, Try.ntmps39
    go_wp2_with fail
    refine AP.out.mono ?_
    rintro e w1 ⟨rfl, hb⟩
    go_wp2_with fail
    go_ret3
    exact ⟨0, 0, fun h => by omega, rfl, hb⟩
  · have hzd : decide (0 < gs.length) = true := decide_eq_true (by omega)
    have hz0 : ((gs.length : Int) == 0) = false := by rw [beq_eq_false_iff_ne]; omega
    have hz1 : (0 : Int) < (gs.length : Int) := by omega
    go_enter Try.func39, Try.ntmps39
    go_wp2_with fail
    refine AP.out.mono ?_
    rintro e w1 ⟨rfl, hb⟩
    have B1 := keep hb
    obtain ⟨g, rfl, hg, c0, c1, c2, c3⟩ := HA.out 0 (by omega)
    have d1 := (hb.cell (p := ⟨g, 0 * 4 + 1, none⟩) hg).trans c1
    rw [show (0 * 4 + 1 : Nat) = 1 from rfl] at d1
    have hlt0 : 0 < gs.length := by omega
    have Lp := keep (LO.out gs[0] (HO.out _ (List.getElem_mem hlt0)))
    have L0 : Kept (Nm single (lw (pwOf gs[0]))) := keep (by
      obtain ⟨P0, P1⟩ := pw_bound gs[0] (HO.out _ (List.getElem_mem hlt0))
      obtain ⟨R, _, _, n1, _⟩ := lw_ok _ P0 P1
      exact n1)
    have lg1 : g < w1.heap.size := Nat.lt_of_lt_of_le hg hb.size
    clear hb c0 c1 c2 c3 AP
    go_wp2_with fail
    refine (Lp.out _).mono ?_
    rintro e w2 ⟨rfl, rfl⟩
    clear d1
    go_wp2_with fail
    go_loopw [25, 5, 6] (fun t f l wr => ∃ (i fi L : Nat), i ≤ gs.length ∧ fi < gs.length ∧ t = .int .i64 i ∧ f = .int .i64 fi ∧ l = .float .f32 L ∧ Kept (Least L (gs.take i)) ∧ Kept (Below w.heap.size w wr)) (fun t _ _ _ => gs.length - (intOf t).toNat)
    case atStart => exact ⟨0, 0, _, Nat.zero_le _, by omega, rfl, rfl, rfl, keep ⟨L0.out, fun p hp => by cases hp⟩, B1⟩
    case round =>
      clear B1 L0 Lp lg1
      obtain ⟨i, fi, L, hi, hfi, rfl, rfl, rfl, hL, hb⟩ := hrel
      by_cases hlt : i < gs.length
      · obtain ⟨g', e, _, c0, c1, c2, c3⟩ := HA.out i hlt
        injection e with e
        injection e with e
        subst e
        have d0 := (hb.out.cell (p := ⟨g, i * 4, none⟩) hg).trans c0
        have d1 := (hb.out.cell (p := ⟨g, i * 4 + 1, none⟩) hg).trans c1
        have d2 := (hb.out.cell (p := ⟨g, i * 4 + 2, none⟩) hg).trans c2
        have d3 := (hb.out.cell (p := ⟨g, i * 4 + 3, none⟩) hg).trans c3
        have hp := HO.out _ (List.getElem_mem hlt)
        have Lp := keep (LO.out gs[i] hp)
        obtain ⟨P0, P1⟩ := pw_bound gs[i] hp
        obtain ⟨R, _, _, nL, _⟩ := lw_ok _ P0 P1
        have HL : Kept (∀ M, Nm single M → V single M ≤ V single L → V single M ≤ V single (lw (pwOf gs[i])) → Least M (gs.take (i + 1))) := keep (fun M hM h1 h2 => ⟨hM, fun p hp => by
          rw [List.take_succ_eq_append_getElem hlt, List.mem_append, List.mem_singleton] at hp
          rcases hp with hp | rfl
          · exact Rat.le_trans h1 (hL.out.2 p hp)
          · exact h2⟩)
        have hsz := hb.out.size
        have hq := V_lt nL hL.out.1
        have NL := keep nL
        clear c0 c1 c2 c3 hp nL P0 P1
        by_cases hv : V single (lw (pwOf gs[i])) < V single L
        · rw [decide_eq_true hv] at hq
          have HM := keep (HL.out _ NL.out (Rat.le_of_lt hv) Rat.le_refl)
          have hq2 : (FloatKind.f32.format.order (lw (pwOf gs[i])) L == some .lt) = true := hq
          clear hq HL hv NL
          generalize lw (pwOf gs[i]) = M at *
          generalize gs[i] = p at *
          go_wp2_with fail
          refine (Lp.out _).mono ?_
          rintro e w' ⟨rfl, rfl⟩
          go_wp2_with fail
          go_roundw
          case rel => exact ⟨i + 1, i, M, by omega, by omega, by go_num, rfl, rfl, HM, keep (hb.out.trans (by go_grown))⟩
          case measure => simp [intOf]; omega
        · rw [decide_eq_false hv] at hq
          have HM := keep (HL.out L hL.out.1 Rat.le_refl (by grind))
          have hq2 : (FloatKind.f32.format.order (lw (pwOf gs[i])) L == some .lt) = false := hq
          clear hq HL hv NL
          generalize lw (pwOf gs[i]) = M at *
          generalize gs[i] = p at *
          go_wp2_with fail
          refine (Lp.out _).mono ?_
          rintro e w' ⟨rfl, rfl⟩
          go_wp2_with fail
          go_roundw
          case rel => exact ⟨i + 1, fi, L, by omega, hfi, by go_num, rfl, rfl, HM, keep (hb.out.trans (by go_grown))⟩
          case measure => simp [intOf]; omega
      · obtain rfl : i = gs.length := by omega
        have l0 := hL.out
        rw [List.take_length] at l0
        have LL := keep l0
        have F := IsFinite32 L
        rw [fin_Nm l0.1] at F
        have F := keep F
        clear l0 hL
        go_wp2_with fail
        refine (F.out _).mono ?_
        rintro e w' ⟨rfl, m, rfl⟩
        go_wp2_with fail
        go_ret3
        exact ⟨fi, L, fun _ => ⟨hfi, LL.out⟩, by rw [hzd]; rfl, Below.drewN_of hb.out _⟩
end Go.Proofs.Ytnmdgbnophclnaa
namespace Go.Proofs.Ytnmdgbnophclnaa
open Go.RowKit Go.Sort Ieee
set_option linter.unusedSimpArgs false

set_option maxHeartbeats 1000000 in
theorem ConjugateOf_any (a b : Nat) (w : World) : Calls Try.prog 116 #[.complex .f32 a b] w fun e w' => e = .returned (.complex .f32 a (Op.negFloat .f32 b)) ∧ w' = w := by
  have f1 := run_negf b
  go_enter Try.func116, Try.ntmps116
  go_wp2_with fail
  go_ret
  exact ⟨rfl, rfl⟩

set_option maxHeartbeats 1000000 in
theorem parts_any (a b A B : Nat) (h1 : floatToFloatBits .f32 a .f64 = some A) (h2 : floatToFloatBits .f32 b .f64 = some B) (w : World) : Calls Try.prog 118 #[.complex .f32 a b] w fun e w' => e = .returned (.tuple #[.float .f64 A, .float .f64 B]) ∧ w' = w := by
  have f1 := run_conv32 a A h1
  have f2 := run_conv32 b B h2
  clear h1 h2
  go_enter Try.func118, Try.ntmps118
  go_wp2_with fail
  go_ret2
  exact ⟨rfl, rfl⟩

set_option maxHeartbeats 1000000 in
theorem product_any (a b c d A B C D p1 p2' p3 q1 q2 q3 : Nat) (ha : floatToFloatBits .f32 a .f64 = some A) (hb : floatToFloatBits .f32 b .f64 = some B) (hc : floatToFloatBits .f32 c .f64 = some C) (hd : floatToFloatBits .f32 d .f64 = some D)
    (h1 : floatBits .mul .f64 A C = some p1) (h2 : floatBits .mul .f64 B D = some p2') (h3 : floatBits .sub .f64 p1 p2' = some p3) (h4 : floatBits .mul .f64 A D = some q1) (h5 : floatBits .mul .f64 B C = some q2) (h6 : floatBits .add .f64 q1 q2 = some q3) (w : World) :
    Calls Try.prog 115 #[.complex .f32 a b, .complex .f32 c d] w fun e w' => e = .returned (.tuple #[.float .f64 p3, .float .f64 q3]) ∧ w' = w := by
  have P1 := keep (fun w => parts_any a b A B ha hb w)
  have P2 := keep (fun w => parts_any c d C D hc hd w)
  have f1 := frun h1
  have f2 := frun h2
  have f3 := frun h3
  have f4 := frun h4
  have f5 := frun h5
  have f6 := frun h6
  clear ha hb hc hd h1 h2 h3 h4 h5 h6
  go_enter Try.func115, Try.ntmps115
  go_wp2_with fail
  refine (P1.out _).mono ?_
  rintro e w' ⟨rfl, rfl⟩
  go_wp2_with fail
  refine (P2.out _).mono ?_
  rintro e w' ⟨rfl, rfl⟩
  go_wp2_with fail
  go_ret2
  exact ⟨rfl, rfl⟩

set_option maxHeartbeats 1000000 in
theorem QuotientOf_any (a b c d p q r s t S T : Nat) (hp : ∀ w, Calls Try.prog 115 #[.complex .f32 a b, .complex .f32 c (Op.negFloat .f32 d)] w fun e w' => e = .returned (.tuple #[.float .f64 p, .float .f64 q]) ∧ w' = w) (hr : ∀ w, Calls Try.prog 86 #[.complex .f32 c d] w fun e w' => e = .returned (.float .f64 r) ∧ w' = w)
    (h1 : floatBits .quo .f64 p r = some s) (h2 : floatBits .quo .f64 q r = some t) (h3 : floatToFloatBits .f64 s .f32 = some S) (h4 : floatToFloatBits .f64 t .f32 = some T) (w : World) :
    Calls Try.prog 83 #[.complex .f32 a b, .complex .f32 c d] w fun e w' => e = .returned (.complex .f32 S T) ∧ w' = w := by
  have HP := keep hp
  have HR := keep hr
  have CJ := keep (fun w => ConjugateOf_any c d w)
  have f1 := frun h1
  have f2 := frun h2
  have f3 := run_conv64 s S h3
  have f4 := run_conv64 t T h4
  clear hp hr h1 h2 h3 h4
  go_enter Try.func83, Try.ntmps83
  go_wp2_with fail
  refine (CJ.out _).mono ?_
  rintro e w' ⟨rfl, rfl⟩
  go_wp2_with fail
  refine (HP.out _).mono ?_
  rintro e w' ⟨rfl, rfl⟩
  go_wp2_with fail
  refine (HR.out _).mono ?_
  rintro e w' ⟨rfl, rfl⟩
  go_wp2_with fail
  go_ret
  exact ⟨rfl, rfl⟩

theorem negz_word : Op.negFloat .f32 0 = 2147483648 := by decide +kernel
theorem negz_wide : floatToFloatBits .f32 2147483648 .f64 = some 9223372036854775808 := by decide +kernel
theorem negz_isD : Is double 9223372036854775808 0 0 := ⟨true, 0, -1074, by decide +kernel, Stands.zero⟩
theorem Is.zero_any {f : Format} {b k : Nat} (j : Nat) (h : Is f b k 0) : Is f b j 0 := by
  obtain ⟨s, m, i, h1, h2⟩ := h
  have hm := h2.mag_zero.2 rfl
  subst hm
  exact ⟨s, 0, i, h1, Stands.zero⟩
theorem mul_negz (k : Nat) (hk : k ≤ 60) (a : Int) (ha : a.natAbs < 16777216) (j : Nat) : ∃ r, floatBits .mul .f64 (wd double k a) 9223372036854775808 = some r ∧ Is double r j 0 := by
  obtain ⟨r, e, hr⟩ := Is.mul fit_double (wd_is double fit_double k a (by show k + 52 ≤ 149; omega) (by show a.natAbs < 9007199254740992; omega)) negz_isD (by show k + 0 + 52 ≤ 149; omega) (by rw [Int.mul_zero]; decide)
  rw [Int.mul_zero] at hr
  exact ⟨r, e, hr.zero_any j⟩
theorem mul_zero_zero : floatBits .mul .f64 0 0 = some 0 := by decide +kernel
theorem widen_zero : floatToFloatBits .f32 0 .f64 = some 0 := by decide +kernel

theorem natAbs_mul_lt {a b : Int} {m n : Nat} (ha : a.natAbs ≤ m) (hb : b.natAbs ≤ n) : (a * b).natAbs ≤ m * n := by
  rw [Int.natAbs_mul]; exact Nat.mul_le_mul ha hb

/-- A complex number of exact parts by a positive number. -/
theorem quot_real (k l : Nat) (hk : k ≤ 30) (hl : l ≤ 30) (X Y N : Int) (hX : X.natAbs ≤ 4096) (hY : Y.natAbs ≤ 4096) (hN : 0 < N) (hN2 : N ≤ 1000) (s t S T : Nat)
    (h1 : floatBits .quo .f64 (wd double (k + l) (X * N)) (wd double (l + l) (N * N)) = some s) (h2 : floatBits .quo .f64 (wd double (k + l) (Y * N)) (wd double (l + l) (N * N)) = some t) (h3 : floatToFloatBits .f64 s .f32 = some S) (h4 : floatToFloatBits .f64 t .f32 = some T) (w : World) :
    Calls Try.prog 83 #[.complex .f32 (wd single k X) (wd single k Y), .complex .f32 (wd single l N) 0] w fun e w' => e = .returned (.complex .f32 S T) ∧ w' = w := by
  have hXN : (X * N).natAbs ≤ 4096 * 1000 := natAbs_mul_lt hX (by omega)
  have hYN : (Y * N).natAbs ≤ 4096 * 1000 := natAbs_mul_lt hY (by omega)
  have hNN : (N * N).natAbs ≤ 1000 * 1000 := natAbs_mul_lt (by omega) (by omega)
  have eA := widen_wd k X (by omega) (by omega)
  have eB := widen_wd k Y (by omega) (by omega)
  have eC := widen_wd l N (by omega) (by omega)
  have m1 : floatBits .mul .f64 (wd double k X) (wd double l N) = some (wd double (k + l) (X * N)) := mul_wd_pos (f := double) fit_double binade_le_double hN (by show k + 52 ≤ 149; omega) (by show l + 52 ≤ 149; omega) (by show k + l + 52 ≤ 149; omega) (by show X.natAbs < 9007199254740992; omega) (by show N.natAbs < 9007199254740992; omega) (by show (X * N).natAbs < 9007199254740992; omega)
  have m2 : floatBits .mul .f64 (wd double k Y) (wd double l N) = some (wd double (k + l) (Y * N)) := mul_wd_pos (f := double) fit_double binade_le_double hN (by show k + 52 ≤ 149; omega) (by show l + 52 ≤ 149; omega) (by show k + l + 52 ≤ 149; omega) (by show Y.natAbs < 9007199254740992; omega) (by show N.natAbs < 9007199254740992; omega) (by show (Y * N).natAbs < 9007199254740992; omega)
  have m3 : floatBits .mul .f64 (wd double l N) (wd double l N) = some (wd double (l + l) (N * N)) := mul_wd_pos (f := double) fit_double binade_le_double hN (by show l + 52 ≤ 149; omega) (by show l + 52 ≤ 149; omega) (by show l + l + 52 ≤ 149; omega) (by show N.natAbs < 9007199254740992; omega) (by show N.natAbs < 9007199254740992; omega) (by show (N * N).natAbs < 9007199254740992; omega)
  obtain ⟨z1, g1, i1⟩ := mul_negz k (by omega) Y (by omega) (k + l)
  obtain ⟨z2, g2, i2⟩ := mul_negz k (by omega) X (by omega) (k + l)
  have s1 : floatBits .sub .f64 (wd double (k + l) (X * N)) z1 = some (wd double (k + l) (X * N)) := sub_zero_is (f := double) fit_double binade_le_double i1 (by show k + l + 52 ≤ 149; omega) (by show (X * N).natAbs < 9007199254740992; omega)
  have s2 : floatBits .add .f64 z2 (wd double (k + l) (Y * N)) = some (wd double (k + l) (Y * N)) := zero_add_is (f := double) fit_double binade_le_double i2 (by show k + l + 52 ≤ 149; omega) (by show (Y * N).natAbs < 9007199254740992; omega)
  have a3 : floatBits .add .f64 (wd double (l + l) (N * N)) 0 = some (wd double (l + l) (N * N)) := by
    have := fadd64 (k := l + l) (a := N * N) (b := 0) (by omega) (by omega) (by omega)
    rwa [wd_zero, Int.add_zero] at this
  refine QuotientOf_any _ _ _ _ _ _ _ s t S T (fun w => ?_) (fun w => power_any _ _ _ _ _ _ _ eC widen_zero m3 mul_zero_zero a3 w) h1 h2 h3 h4 w
  rw [negz_word]
  exact product_any _ _ _ _ _ _ _ _ _ _ _ _ _ _ eA eB eC negz_wide m1 g1 s1 g2 m2 s2 w

set_option maxHeartbeats 1000000 in
theorem less_w (a b c d r s : Nat) (h1 : floatBits .sub .f32 a c = some r) (h2 : floatBits .sub .f32 b d = some s) (w : World) : Calls Try.prog 69 #[.complex .f32 a b, .complex .f32 c d] w fun e w' => e = .returned (.complex .f32 r s) ∧ w' = w := by
  have f1 := frun h1
  have f2 := frun h2
  clear h1 h2
  go_enter Try.func69, Try.ntmps69
  go_wp2_with fail
  go_ret
  exact ⟨rfl, rfl⟩
set_option maxHeartbeats 1000000 in
theorem PowerOf_any (a b r R : Nat) (h : ∀ w, Calls Try.prog 86 #[.complex .f32 a b] w fun e w' => e = .returned (.float .f64 r) ∧ w' = w) (h2 : floatToFloatBits .f64 r .f32 = some R) (w : World) : Calls Try.prog 68 #[.complex .f32 a b] w fun e w' => e = .returned (.float .f32 R) ∧ w' = w := by
  have H := keep h
  have f1 := run_conv64 r R h2
  clear h h2
  go_enter Try.func68, Try.ntmps68
  go_wp2_with fail
  refine (H.out _).mono ?_
  rintro e w' ⟨rfl, rfl⟩
  go_wp2_with fail
  go_ret
  exact ⟨rfl, rfl⟩
set_option maxHeartbeats 1000000 in
theorem finite_yes (z : Nat) (h : Nm single z) (w : World) : Calls Try.prog 84 #[.float .f32 z, .bool true] w fun e w' => e = .returned (.tuple #[.float .f32 z, .bool true]) ∧ ∃ m, w' = w.drewN m := by
  have F := IsFinite32 z
  rw [fin_Nm h] at F
  have F := keep F
  clear h
  go_enter Try.func84, Try.ntmps84
  go_wp2_with fail
  refine (F.out _).mono ?_
  rintro e w' ⟨rfl, m, rfl⟩
  go_wp2_with fail
  go_ret2
  exact ⟨rfl, _, rfl⟩
end Go.Proofs.Ytnmdgbnophclnaa
namespace Go.Proofs.Ytnmdgbnophclnaa
open Go.RowKit Go.Sort Ieee
set_option linter.unusedSimpArgs false

theorem mul_self_nonneg (a : Rat) : 0 ≤ a * a := by
  rcases Rat.le_total (a := 0) (b := a) with h | h
  · exact Rat.mul_nonneg h h
  · have := Rat.mul_nonneg (a := -a) (b := -a) (by grind) (by grind)
    grind
/-- Numbers between -B and B. -/
def Bd (x B : Rat) : Prop := x ≤ B ∧ -B ≤ x
theorem Bd.cl {x B : Rat} (h : Bd x B) : Cl x 0 B := by unfold Bd Cl at *; grind
theorem Cl.bd {x y e B : Rat} (h : Cl x y e) (g : Bd y B) : Bd x (B + e) := by unfold Bd Cl at *; grind
theorem Bd.mono {x B C : Rat} (h : Bd x B) (g : B ≤ C) : Bd x C := by unfold Bd at *; grind
theorem Bd.add {x y B C : Rat} (h : Bd x B) (g : Bd y C) : Bd (x + y) (B + C) := by unfold Bd at *; grind
theorem Bd.sub {x y B C : Rat} (h : Bd x B) (g : Bd y C) : Bd (x - y) (B + C) := by unfold Bd at *; grind
theorem Bd.mul {x y B C : Rat} (h : Bd x B) (g : Bd y C) : Bd (x * y) (B * C) := by
  obtain ⟨h1, h2⟩ := h
  obtain ⟨g1, g2⟩ := g
  have a := Rat.mul_nonneg (a := B - x) (b := C - y) (by grind) (by grind)
  have b := Rat.mul_nonneg (a := B + x) (b := C + y) (by grind) (by grind)
  have c := Rat.mul_nonneg (a := B - x) (b := C + y) (by grind) (by grind)
  have d := Rat.mul_nonneg (a := B + x) (b := C - y) (by grind) (by grind)
  unfold Bd
  constructor <;> grind
theorem Bd.int {n : Int} {K : Nat} (h : n.natAbs ≤ K) : Bd (n : Rat) (K : Rat) := by
  have h1 : n ≤ (K : Int) := by omega
  have h2 : -(K : Int) ≤ n := by omega
  have a := Rat.intCast_le_intCast.2 h1
  have b := Rat.intCast_le_intCast.2 h2
  rw [Rat.intCast_neg] at b
  rw [Rat.intCast_natCast] at a b
  exact ⟨a, b⟩

theorem p2_m3 : p2 (-((3 : Nat) : Int)) = 1 / 8 := by decide +kernel
theorem p2_0' : p2 (-((0 : Nat) : Int)) = 1 := by decide +kernel

theorem V_speed (u : Int) (h0 : -8 ≤ u) (h1 : u ≤ 8) : Nm single (wd single 3 u) ∧ Bd (V single (wd single 3 u)) 1 := by
  obtain ⟨n, v⟩ := V_wd (f := single) fit_single 3 u (by decide) (by show u.natAbs < 16777216; omega)
  refine ⟨n, ?_⟩
  rw [v, p2_m3]
  have := Bd.int (n := u) (K := 8) (by omega)
  unfold Bd at *
  have e : ((8 : Nat) : Rat) = 8 := rfl
  rw [e] at this
  constructor <;> grind

/-- A mean speed. -/
theorem mean_speed (U : Int) (n : Nat) (h1 : 1 ≤ n) (h6 : n ≤ 6) (hU : U.natAbs ≤ 8 * n) : ∃ s S, floatBits .quo .f64 (wd double (3 + 0) (U * (n : Int))) (wd double (0 + 0) ((n : Int) * (n : Int))) = some s ∧ floatToFloatBits .f64 s .f32 = some S ∧ Nm single S ∧ Bd (V single S) 3 := by
  have hUn : (U * (n : Int)).natAbs ≤ 48 * 6 := natAbs_mul_lt (by omega) (by omega)
  have hnn : ((n : Int) * (n : Int)).natAbs ≤ 6 * 6 := natAbs_mul_lt (by omega) (by omega)
  obtain ⟨n1, v1⟩ := V_wd (f := double) fit_double 3 (U * (n : Int)) (by decide) (by show (U * (n : Int)).natAbs < 9007199254740992; omega)
  obtain ⟨n2, v2⟩ := V_wd (f := double) fit_double 0 ((n : Int) * (n : Int)) (by decide) (by show ((n : Int) * (n : Int)).natAbs < 9007199254740992; omega)
  rw [p2_m3, Rat.intCast_mul, Rat.intCast_natCast] at v1
  rw [p2_0', Rat.intCast_mul, Rat.intCast_natCast] at v2
  have hn0 : (1 : Rat) ≤ (n : Rat) := by
    have := Rat.natCast_le_natCast.2 h1
    simpa using this
  have hn1 : (n : Rat) ≠ 0 := by grind
  have hi : (n : Rat) * (n : Rat)⁻¹ = 1 := Rat.mul_inv_cancel _ hn1
  have hip : 0 < (n : Rat)⁻¹ := Rat.inv_pos.2 (by grind)
  have hb := Bd.int (n := U) (K := 8 * n) hU
  have hb2 : Bd ((U : Rat) * (n : Rat)⁻¹) 8 := by
    unfold Bd at *
    have e : ((8 * n : Nat) : Rat) = 8 * (n : Rat) := by rw [Rat.natCast_mul]; rfl
    rw [e] at hb
    have a := Rat.mul_le_mul_of_nonneg_right hb.1 (Rat.le_of_lt hip)
    have b := Rat.mul_le_mul_of_nonneg_right hb.2 (Rat.le_of_lt hip)
    constructor <;> grind
  have hq : ((U : Rat) * (n : Rat)⁻¹ * (1 / 8)) * V double (wd double 0 ((n : Int) * (n : Int))) = V double (wd double 3 (U * (n : Int))) := by
    rw [v1, v2]; grind
  have hbq : Bd ((U : Rat) * (n : Rat)⁻¹ * (1 / 8)) 1 := by unfold Bd at *; constructor <;> grind
  have hv0 : V double (wd double 0 ((n : Int) * (n : Int))) ≠ 0 := by
    rw [v2]
    have := Rat.mul_pos (a := (n : Rat)) (b := (n : Rat)) (by grind) (by grind)
    grind
  have e0 : p2 0 = 1 := p2_zero
  obtain ⟨s, hs, ns, cs, _⟩ := div_near good_double n1 n2 hv0 0 _ hq (by rw [e0]; exact hbq.cl) (ex_double (by omega) (by omega)) (by decide)
  have u1 : ulp double (0 + 2) ≤ 1 := by decide +kernel
  have bs : Bd (V double s) 2 := (cs.bd hbq).mono (by grind)
  have e1 : p2 1 = 2 := p2_one
  obtain ⟨S, hS, nS, cS, _⟩ := narrow_V ns 1 (by rw [e1]; exact bs.cl) (ex_single (by omega) (by omega))
  have u2 : ulp single 1 ≤ 1 := by decide +kernel
  exact ⟨s, S, hs, hS, nS, (cS.bd bs).mono (by grind)⟩

/-- The power of a speed less the mean. -/
theorem spread_part (u : Int) (h0 : -8 ≤ u) (h1 : u ≤ 8) (S : Nat) (nS : Nm single S) (bS : Bd (V single S) 3) : ∃ r D q, floatBits .sub .f32 (wd single 3 u) S = some r ∧ floatToFloatBits .f32 r .f64 = some D ∧ floatBits .mul .f64 D D = some q ∧ Nm double q ∧ 0 ≤ V double q ∧ V double q ≤ 26 := by
  obtain ⟨nu, bu⟩ := V_speed u h0 h1
  have e2 : p2 2 = 4 := by decide +kernel
  have u2 : ulp single 2 ≤ 1 := by decide +kernel
  have b1 : Bd (V single (wd single 3 u) - V single S) 4 := (bu.sub bS).mono (by grind)
  obtain ⟨r, hr, nr, cr, _⟩ := sub_near good_single nu nS 2 (by rw [e2]; exact b1.cl) (ex_single (by omega) (by omega))
  have br : Bd (V single r) 5 := (cr.bd b1).mono (by grind)
  obtain ⟨D, hD, nD, vD⟩ := widen_V nr
  rw [← vD] at br
  have bm := br.mul br
  have e5 : p2 5 = 32 := by decide +kernel
  have u5 : ulp double 5 ≤ 1 := by decide +kernel
  obtain ⟨q, hq, nq, cq, sq⟩ := mul_near good_double nD nD 5 (by rw [e5]; exact (bm.mono (by grind)).cl) (ex_double (by omega) (by omega))
  refine ⟨r, D, q, hr, hD, hq, nq, sq (mul_self_nonneg _), ?_⟩
  have := cq.bd bm
  unfold Bd at this
  grind

theorem spread_step (u v : Int) (u0 : -8 ≤ u) (u1 : u ≤ 8) (v0 : -8 ≤ v) (v1 : v ≤ 8) (S T : Nat) (nS : Nm single S) (bS : Bd (V single S) 3) (nT : Nm single T) (bT : Bd (V single T) 3) (o i : Nat) (hi : i < 6) (no : Nm double o) (o0 : 0 ≤ V double o) (o1 : V double o ≤ 64 * (i : Rat)) :
    ∃ x y R D o', (∀ w, Calls Try.prog 69 #[.complex .f32 (wd single 3 u) (wd single 3 v), .complex .f32 S T] w fun e w' => e = .returned (.complex .f32 x y) ∧ w' = w) ∧ (∀ w, Calls Try.prog 68 #[.complex .f32 x y] w fun e w' => e = .returned (.float .f32 R) ∧ w' = w) ∧ floatToFloatBits .f32 R .f64 = some D ∧ floatBits .add .f64 o D = some o' ∧ Nm double o' ∧ 0 ≤ V double o' ∧ V double o' ≤ 64 * ((i + 1 : Nat) : Rat) := by
  obtain ⟨x, A, p, h1, h2, h3, np, p0, p1⟩ := spread_part u u0 u1 S nS bS
  obtain ⟨y, B, q, g1, g2, g3, nq, q0, q1⟩ := spread_part v v0 v1 T nT bT
  have e6 : p2 6 = 64 := by decide +kernel
  have u6 : ulp double 6 ≤ 1 := by decide +kernel
  obtain ⟨r, hr, nr, cr, sr⟩ := add_near good_double np nq 6 (by rw [e6]; unfold Cl; constructor <;> grind) (ex_double (by omega) (by omega))
  have r0 := sr (by grind)
  have r1 : V double r ≤ 53 := by unfold Cl at cr; grind
  obtain ⟨R, hR, nR, cR, sR⟩ := narrow_V nr 6 (by rw [e6]; unfold Cl; constructor <;> grind) (ex_single (by omega) (by omega))
  have R0 := sR r0
  have us6 : ulp single 6 ≤ 1 := by decide +kernel
  have R1 : V single R ≤ 54 := by unfold Cl at cR; grind
  obtain ⟨D, hD, nD, vD⟩ := widen_V nR
  have i6 : (i : Rat) ≤ 5 := by
    have := Rat.natCast_le_natCast.2 (show i ≤ 5 by omega)
    simpa using this
  have e9 : p2 9 = 512 := by decide +kernel
  have u9 : ulp double 9 ≤ 1 := by decide +kernel
  obtain ⟨o', ho, no', co, so⟩ := add_near good_double no nD 9 (by rw [e9, vD]; unfold Cl; constructor <;> grind) (ex_double (by omega) (by omega))
  rw [vD] at co so
  refine ⟨x, y, R, D, o', fun w => less_w _ _ _ _ _ _ h1 g1 w, fun w => PowerOf_any _ _ _ _ (fun w => power_any _ _ _ _ _ _ _ h2 g2 h3 g3 hr w) hR w, hD, ho, no', so (by grind), ?_⟩
  have e : ((i + 1 : Nat) : Rat) = (i : Rat) + 1 := by rw [Rat.natCast_add]; rfl
  rw [e]
  unfold Cl at co
  grind

theorem spread_end (o n : Nat) (h1 : 1 ≤ n) (h6 : n ≤ 6) (no : Nm double o) (o0 : 0 ≤ V double o) (o1 : V double o ≤ 64 * (n : Rat)) : ∃ s S, floatBits .quo .f64 o (wd double 0 (n : Int)) = some s ∧ floatToFloatBits .f64 s .f32 = some S ∧ Nm single S ∧ 0 ≤ V single S := by
  obtain ⟨n2, v2⟩ := V_wd (f := double) fit_double 0 (n : Int) (by decide) (by show (n : Int).natAbs < 9007199254740992; omega)
  rw [p2_0', Rat.intCast_natCast] at v2
  have hn0 : (1 : Rat) ≤ (n : Rat) := by
    have := Rat.natCast_le_natCast.2 h1
    simpa using this
  have hi : (n : Rat) * (n : Rat)⁻¹ = 1 := Rat.mul_inv_cancel _ (by grind)
  have hip : 0 < (n : Rat)⁻¹ := Rat.inv_pos.2 (by grind)
  have a := Rat.mul_le_mul_of_nonneg_right o1 (Rat.le_of_lt hip)
  have b := Rat.mul_nonneg o0 (Rat.le_of_lt hip)
  have hq : (V double o * (n : Rat)⁻¹) * V double (wd double 0 (n : Int)) = V double o := by rw [v2]; grind
  have bq : Bd (V double o * (n : Rat)⁻¹) 64 := by unfold Bd; constructor <;> grind
  have e6 : p2 6 = 64 := by decide +kernel
  obtain ⟨s, hs, ns, cs, ss⟩ := div_near good_double no n2 (by rw [v2]; grind) 6 _ hq (by rw [e6]; exact bq.cl) (ex_double (by omega) (by omega)) (by decide)
  have u8 : ulp double (6 + 2) ≤ 1 := by decide +kernel
  have e7 : p2 7 = 128 := by decide +kernel
  obtain ⟨S, hS, nS, _, sS⟩ := narrow_V ns 7 (by rw [e7]; exact ((cs.bd bq).mono (by grind)).cl) (ex_single (by omega) (by omega))
  exact ⟨s, S, hs, hS, nS, sS (ss b)⟩

theorem speed_sum (f : GP → Int) (hf : ∀ p : GP, p.ok → (f p).natAbs ≤ 8) (gs : List GP) (h : ∀ p ∈ gs, p.ok) : (sumOf f gs).natAbs ≤ 8 * gs.length := sumOf_bound f 8 gs (fun p hp => hf p (h p hp))

set_option maxHeartbeats 4000000 in
set_option maxRecDepth 20000 in
theorem SpreadOf_ok (B : Nat) (v : Value) (gs : List GP) (w : World) (h : w.ownsRow B 52 4 v gs.length (psCells (gs.map GP.pd))) (hok : ∀ p ∈ gs, p.ok) (hN : gs.length ≤ 6) :
    Calls Try.prog 40 #[v] w fun e w' => ∃ L, Nm single L ∧ 0 ≤ V single L ∧ e = .returned (.tuple #[.float .f32 L, .bool (decide (0 < gs.length))]) ∧ Below w.heap.size w w' := by
  have AP := keep (Areg_ok B v gs w h hok hN)
  obtain ⟨A, c, rfl, hA⟩ := gown_form h
  have HA := keep hA
  have HO := keep hok
  clear h hA hok
  have v0' : Nm single 0 ∧ V single 0 = 0 := by
    have := V_wd (f := single) fit_single 0 0 (by decide) (by decide)
    rw [wd_zero] at this
    exact ⟨this.1, by rw [this.2]; decide +kernel⟩
  by_cases hz : gs.length = 0
  · have hzd : decide (0 < gs.length) = false := decide_eq_false (by omega)
    have HZ := keep hzd
    rw [hz] at AP
    rw [hz]
    clear hz hzd
    go_enter Try.func40, Try.ntmps40
    go_wp2_with fail
    refine AP.out.mono ?_
    rintro e w1 ⟨rfl, hb⟩
    go_wp2_with fail
    go_ret2
    exact ⟨0, v0'.1, by rw [v0'.2]; exact Rat.le_refl, rfl, hb⟩
  · have hzd : decide (0 < gs.length) = true := decide_eq_true (by omega)
    have hz0 : ((gs.length : Int) == 0) = false := by rw [beq_eq_false_iff_ne]; omega
    have z0 := wd_zero single 3
    clear v0'
    go_enter Try.func40, Try.ntmps40
    go_wp2_with fail
    refine AP.out.mono ?_
    rintro e w1 ⟨rfl, hb⟩
    have B1 := keep hb
    clear hb AP
    go_wp2_with fail
    go_loopw [21, 4] (fun s z wr => ∃ (i : Nat) (S T : Int), i ≤ gs.length ∧ s = .int .i64 i ∧ z = .complex .f32 (wd single 3 S) (wd single 3 T) ∧ Kept (S = sumOf GP.u (gs.take i)) ∧ Kept (T = sumOf GP.v (gs.take i)) ∧ Kept (Below w.heap.size w wr)) (fun s _ _ => gs.length - (intOf s).toNat)
    case atStart => exact ⟨0, 0, 0, Nat.zero_le _, rfl, by rw [z0], keep (by simp [sumOf]), keep (by simp [sumOf]), B1⟩
    case round =>
      clear B1 z0
      obtain ⟨i, S, T, hi, rfl, rfl, hS, hT, hb⟩ := hrel
      have b0 := speed_sum GP.u (fun p hp => by obtain ⟨_, _, ⟨u0, u1⟩, ⟨v0, v1⟩, _, _⟩ := hp; omega) (gs.take i) (fun p hp => HO.out p (List.mem_of_mem_take hp))
      have b1 := speed_sum GP.v (fun p hp => by obtain ⟨_, _, ⟨u0, u1⟩, ⟨v0, v1⟩, _, _⟩ := hp; omega) (gs.take i) (fun p hp => HO.out p (List.mem_of_mem_take hp))
      rw [← hS.out, List.length_take] at b0
      rw [← hT.out, List.length_take] at b1
      by_cases hlt : i < gs.length
      · obtain ⟨g, rfl, hg, c0, c1, c2, c3⟩ := HA.out i hlt
        have d0 := (hb.out.cell (p := ⟨g, i * 4, none⟩) hg).trans c0
        have d1 := (hb.out.cell (p := ⟨g, i * 4 + 1, none⟩) hg).trans c1
        have d2 := (hb.out.cell (p := ⟨g, i * 4 + 2, none⟩) hg).trans c2
        have d3 := (hb.out.cell (p := ⟨g, i * 4 + 3, none⟩) hg).trans c3
        have hS1 := keep ((hS.out ▸ sumOf_take GP.u gs i hlt : sumOf GP.u (gs.take (i + 1)) = S + gs[i].u))
        have hT1 := keep ((hT.out ▸ sumOf_take GP.v gs i hlt : sumOf GP.v (gs.take (i + 1)) = T + gs[i].v))
        obtain ⟨_, _, ⟨u0, u1⟩, ⟨v0, v1⟩, _, _⟩ := HO.out _ (List.getElem_mem hlt)
        clear c0 c1 c2 c3 hS hT
        generalize gs[i] = p at *
        have PL := keep (fun w => plus_any _ _ _ _ _ _ (fadd (k := 3) (a := S) (b := p.u) (by omega) (by omega) (by omega) (by omega)) (fadd (k := 3) (a := T) (b := p.v) (by omega) (by omega) (by omega) (by omega)) w)
        have hsz := hb.out.size
        clear b0 b1 u0 u1 v0 v1
        go_wp2_with fail
        refine (PL.out _).mono ?_
        rintro e w' ⟨rfl, rfl⟩
        go_wp2_with fail
        go_roundw
        case rel => exact ⟨i + 1, S + p.u, T + p.v, by omega, by go_num, rfl, keep hS1.out.symm, keep hT1.out.symm, keep (hb.out.trans (by go_grown))⟩
        case measure => simp [intOf]; omega
      · obtain rfl : i = gs.length := by omega
        rw [Nat.min_self] at b0 b1
        obtain ⟨s, X, q1, q2, nX, bX⟩ := mean_speed S gs.length (by omega) hN b0
        obtain ⟨t, Y, q3, q4, nY, bY⟩ := mean_speed T gs.length (by omega) hN b1
        have QU' := fun w => quot_real 3 0 (by omega) (by omega) S T (gs.length : Int) (by omega) (by omega) (by omega) (by omega) s t X Y q1 q3 q2 q4 w
        rw [← ofInt_wd] at QU'
        have QU := keep QU'
        clear q1 q2 q3 q4 b0 b1 hS hT QU'
        go_wp2_with fail
        refine (QU.out _).mono ?_
        rintro e w2 ⟨rfl, rfl⟩
        clear QU
        go_wp2_with fail
        go_loopw [38, 8] (fun s z wr => ∃ (i o : Nat), i ≤ gs.length ∧ s = .int .i64 i ∧ z = .float .f64 o ∧ Kept (Nm double o) ∧ Kept (0 ≤ V double o) ∧ Kept (V double o ≤ 64 * (i : Rat)) ∧ Kept (Below w.heap.size w wr)) (fun s _ _ => gs.length - (intOf s).toNat)
        case atStart =>
          have z := V_wd (f := double) fit_double 0 0 (by decide) (by decide)
          rw [wd_zero] at z
          have e : V double 0 = 0 := by rw [z.2]; decide +kernel
          exact ⟨0, 0, Nat.zero_le _, rfl, rfl, keep z.1, keep (by rw [e]; exact Rat.le_refl), keep (by rw [e]; decide +kernel), hb⟩
        case round =>
          clear hb
          obtain ⟨i, o, hi, rfl, rfl, no, o0, o1, hb⟩ := hrel
          by_cases hlt : i < gs.length
          · obtain ⟨g, rfl, hg, c0, c1, c2, c3⟩ := HA.out i hlt
            have d0 := (hb.out.cell (p := ⟨g, i * 4, none⟩) hg).trans c0
            have d1 := (hb.out.cell (p := ⟨g, i * 4 + 1, none⟩) hg).trans c1
            have d2 := (hb.out.cell (p := ⟨g, i * 4 + 2, none⟩) hg).trans c2
            have d3 := (hb.out.cell (p := ⟨g, i * 4 + 3, none⟩) hg).trans c3
            obtain ⟨_, _, ⟨u0, u1⟩, ⟨v0, v1⟩, _, _⟩ := HO.out _ (List.getElem_mem hlt)
            clear c0 c1 c2 c3
            generalize gs[i] = p at *
            obtain ⟨x, y, R, D, o', k1, k2, k3, k4, no', o0', o1'⟩ := spread_step p.u p.v u0 u1 v0 v1 X Y nX bX nY bY o i (by omega) no.out o0.out o1.out
            have K1 := keep k1
            have K2 := keep k2
            have f3 := run_conv32 R D k3
            have f4 := frun k4
            have NO := keep no'
            have O0 := keep o0'
            have O1 := keep o1'
            have hsz := hb.out.size
            clear k1 k2 k3 k4 no' o0' o1' no o0 o1 u0 u1 v0 v1
            go_wp2_with fail
            refine (K1.out _).mono ?_
            rintro e w' ⟨rfl, rfl⟩
            go_wp2_with fail
            refine (K2.out _).mono ?_
            rintro e w' ⟨rfl, rfl⟩
            go_wp2_with fail
            go_roundw
            case rel => exact ⟨i + 1, o', by omega, by go_num, rfl, NO, O0, O1, keep (hb.out.trans (by go_grown))⟩
            case measure => simp [intOf]; omega
          · obtain rfl : i = gs.length := by omega
            obtain ⟨s, L, k1, k2, nL, L0⟩ := spread_end o gs.length (by omega) hN no.out o0.out o1.out
            have f1 := frun k1
            rw [show wd double 0 (gs.length : Int) = floatOfInt .f64 (gs.length : Int) from rfl] at f1
            have f2 := run_conv64 s L k2
            have FI := keep (fun w => finite_yes L nL w)
            have NL := keep nL
            have L0 := keep L0
            clear k1 k2 nL no o0 o1
            go_wp2_with fail
            refine (FI.out _).mono ?_
            rintro e w' ⟨rfl, m, rfl⟩
            go_wp2_with fail
            go_ret2
            exact ⟨L, NL.out, L0.out, by rw [hzd]; rfl, Below.drewN_of hb.out _⟩
end Go.Proofs.Ytnmdgbnophclnaa
