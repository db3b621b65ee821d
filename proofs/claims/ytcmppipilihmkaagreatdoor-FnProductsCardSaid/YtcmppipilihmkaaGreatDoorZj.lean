/- Contracts: products, powers and quotients of complex numbers of whole parts are exact. No condition but the bounds stated. -/
import Derived.Test.YtcmppipilihmkaaGreatDoorZi
import Derived.Test.YtcmppipilihmkaaGreatDoorZf
namespace Go.Proofs.YtcmppipilihmkaaGreatDoor
open Go.RowKit Go.Sort Ieee
set_option linter.unusedSimpArgs false

/-! ### Plain -/
theorem isS (n : Int) (h : n.natAbs < 16777216) : Is single (wd single 0 n) 0 n := wd_is single fit_single 0 n (by decide) h
theorem not_inf {f : Format} {b k : Nat} {n : Int} (h : Is f b k n) : (f.read b).isInfinity = false := by
  obtain ⟨s, m, i, hr, _⟩ := h
  rw [hr]; rfl
theorem wide_is {b : Nat} {n : Int} (h : Is single b 0 n) (hn : n.natAbs < 16777216) : ∃ D, floatToFloatBits .f32 b .f64 = some D ∧ Is double D 0 n := by
  obtain ⟨s, m, i, hr, hs⟩ := h
  have hw := write_is double fit_double hs (by decide) (by show n.natAbs < 9007199254740992; omega)
  refine ⟨double.nearest s m i, ?_, hw⟩
  unfold floatToFloatBits
  rw [if_neg (by decide), show FloatKind.f32.decode b = .number s m i from hr]
  show (if (double.read (double.nearest s m i)).isInfinity = true then none else some (double.nearest s m i)) = _
  rw [not_inf hw]
  rfl
theorem narrow_is {b : Nat} {n : Int} (h : Is double b 0 n) (hn : n.natAbs < 16777216) : ∃ D, floatToFloatBits .f64 b .f32 = some D ∧ Is single D 0 n := by
  obtain ⟨s, m, i, hr, hs⟩ := h
  have hw := write_is single fit_single hs (by decide) (by show n.natAbs < 16777216; omega)
  refine ⟨single.nearest s m i, ?_, hw⟩
  unfold floatToFloatBits
  rw [if_neg (by decide), show FloatKind.f64.decode b = .number s m i from hr]
  show (if (single.read (single.nearest s m i)).isInfinity = true then none else some (single.nearest s m i)) = _
  rw [not_inf hw]
  rfl
theorem mulD {x y : Nat} {a b : Int} (hx : Is double x 0 a) (hy : Is double y 0 b) (hn : (a * b).natAbs < 9007199254740992) : ∃ r, floatBits .mul .f64 x y = some r ∧ Is double r 0 (a * b) := Is.mul (k := 0) (l := 0) fit_double hx hy (by decide) hn
theorem addD {x y : Nat} {a b : Int} (hx : Is double x 0 a) (hy : Is double y 0 b) (hn : (a + b).natAbs < 9007199254740992) : ∃ r, floatBits .add .f64 x y = some r ∧ Is double r 0 (a + b) := Is.add fit_double hx hy (by decide) hn
theorem subD {x y : Nat} {a b : Int} (hx : Is double x 0 a) (hy : Is double y 0 b) (hn : (a - b).natAbs < 9007199254740992) : ∃ r, floatBits .sub .f64 x y = some r ∧ Is double r 0 (a - b) := Is.sub fit_double hx hy (by decide) hn
theorem abs_mul {a b : Int} {m n : Nat} (ha : a.natAbs ≤ m) (hb : b.natAbs ≤ n) : (a * b).natAbs ≤ m * n := by
  rw [Int.natAbs_mul]; exact Nat.mul_le_mul ha hb
theorem negS {b : Nat} {n : Int} (h : Is single b 0 n) : Is single (Op.negFloat .f32 b) 0 (-n) := by
  obtain ⟨s, m, i, hr, hs⟩ := h
  exact ⟨!s, m, i, by rw [neg32_xor, read_neg, hr]; rfl, hs.opp⟩

/-- A quotient that is whole is whole. -/
theorem quo_exact {x y : Nat} {a c : Int} (hx : Is double x 0 (a * c)) (hy : Is double y 0 c) (hc : c ≠ 0) (ha : a.natAbs < 16777216) : ∃ r, floatBits .quo .f64 x y = some r ∧ Is double r 0 a := by
  obtain ⟨s, m, i, hr, hs⟩ := hx
  obtain ⟨t, n, j, hr', ht⟩ := hy
  have hn : n ≠ 0 := fun e => hc (ht.mag_zero.1 e)
  show ∃ r, double.div x y = some r ∧ Is double r 0 a
  by_cases ha0 : a = 0
  · subst ha0
    have hm : m = 0 := hs.mag_zero.2 (Int.zero_mul c)
    subst hm
    refine ⟨_, by
      unfold Format.div
      rw [hr, hr']
      simp only [Datum.quotient, if_neg hn]
      rfl, ?_⟩
    rw [Nat.zero_shiftLeft, Nat.zero_div, Nat.zero_mod]
    simp only [bne_self_eq_false, Bool.toNat_false, Nat.mul_zero, Nat.add_zero]
    exact write_is double fit_double Stands.zero (by decide) (by decide)
  · have hac : a * c ≠ 0 := Int.mul_ne_zero ha0 hc
    have hm : m ≠ 0 := fun e => hac (hs.mag_zero.1 e)
    obtain ⟨c1, h1, h2, h3⟩ := hs.lower
    obtain ⟨c2, g1, g2, g3⟩ := ht.lower
    obtain ⟨e, he⟩ : ∃ e : Int, e = min c1 c2 := ⟨_, rfl⟩
    have k1 := h3 e (by omega)
    have k2 := g3 e (by omega)
    obtain ⟨u, hu⟩ : ∃ u : Nat, i = e + u := ⟨(i - e).toNat, by omega⟩
    obtain ⟨v, hv⟩ : ∃ v : Nat, j = e + v := ⟨(j - e).toNat, by omega⟩
    rw [show (i - e).toNat = u by omega] at k1
    rw [show (j - e).toNat = v by omega] at k2
    obtain ⟨P, hP⟩ : ∃ P : Nat, P = 2 ^ (-((0 : Nat) : Int) - e).toNat := ⟨_, rfl⟩
    rw [← hP] at k1 k2
    have hPp : 0 < P := by rw [hP]; exact Nat.two_pow_pos _
    -- magnitudes
    have sgs : (sg s).natAbs = 1 := sg_natAbs s
    have sgt : (sg t).natAbs = 1 := sg_natAbs t
    have m1 : m * 2 ^ u = a.natAbs * c.natAbs * P := by
      have := congrArg Int.natAbs k1
      rw [Int.natAbs_mul, sgs, Nat.one_mul, Int.natAbs_mul, Int.natAbs_mul, Int.natAbs_natCast, Int.natAbs_natCast] at this
      exact this
    have m2 : n * 2 ^ v = c.natAbs * P := by
      have := congrArg Int.natAbs k2
      rw [Int.natAbs_mul, sgt, Nat.one_mul, Int.natAbs_mul, Int.natAbs_natCast, Int.natAbs_natCast] at this
      exact this
    have m3 : m * 2 ^ u = a.natAbs * (n * 2 ^ v) := by rw [m1, m2, Nat.mul_assoc]
    -- the sign
    have hsign : sg (s ^^ t) * (a.natAbs : Int) = a := by
      have e3 : sg (s ^^ t) = sg s * sg t := by cases s <;> cases t <;> rfl
      have q1 := hs.sign hac
      have q2 := ht.sign hc
      rw [e3]
      rw [Int.natAbs_mul, Int.natCast_mul] at q1
      have hcn : (c.natAbs : Int) ≠ 0 := by omega
      have q3 : sg s * (a.natAbs : Int) * (c.natAbs : Int) = a * (sg t * (c.natAbs : Int)) := by rw [q2, Int.mul_assoc]; exact q1
      have q4 : sg s * (a.natAbs : Int) = a * sg t := by
        refine Int.eq_of_mul_eq_mul_right hcn ?_
        rw [q3, Int.mul_assoc]
      have st : sg t * sg t = 1 := by cases t <;> rfl
      calc sg s * sg t * (a.natAbs : Int) = (sg s * (a.natAbs : Int)) * sg t := by simp only [Int.mul_assoc, Int.mul_comm, Int.mul_left_comm]
        _ = a * sg t * sg t := by rw [q4]
        _ = a := by rw [Int.mul_assoc, st, Int.mul_one]
    have haN : a.natAbs ≠ 0 := by omega
    generalize hA : a.natAbs = A at *
    -- the dividend
    have hla := Nat.log2_self_le hm
    have hlA : A < 2 ^ 24 := ha
    obtain ⟨more, hmore⟩ : ∃ more, more = double.fractionBits + 2 + n.log2 - m.log2 := ⟨_, rfl⟩
    have hlog : m.log2 + u = (A * n).log2 + v := by
      rw [← log2_mul_pow m u hm, m3, ← Nat.mul_assoc, log2_mul_pow _ v (Nat.mul_ne_zero haN hn)]
    have hlog2 : (A * n).log2 ≤ n.log2 + 24 := by
      have hne : A * n ≠ 0 := Nat.mul_ne_zero haN hn
      have : A * n < 2 ^ (n.log2 + 25) := by
        rw [show n.log2 + 25 = 24 + (n.log2 + 1) by omega, Nat.pow_add]
        exact Nat.lt_of_le_of_lt (Nat.mul_le_mul_right _ (Nat.le_of_lt hlA)) (Nat.mul_lt_mul_of_pos_left Nat.lt_log2_self (Nat.two_pow_pos _))
      have := (Nat.log2_lt hne).2 this
      omega
    have hfr : double.fractionBits = 52 := rfl
    obtain ⟨K, hK⟩ : ∃ K : Nat, K + u = more + v := ⟨more + v - u, by omega⟩
    have hdiv : m <<< more = A * 2 ^ K * n := by
      rw [Nat.shiftLeft_eq]
      have h5 : m * 2 ^ more * 2 ^ u = A * 2 ^ K * n * 2 ^ u := by
        calc m * 2 ^ more * 2 ^ u = m * 2 ^ u * 2 ^ more := by simp only [Nat.mul_assoc, Nat.mul_comm, Nat.mul_left_comm]
          _ = A * (n * 2 ^ v) * 2 ^ more := by rw [m3]
          _ = A * n * (2 ^ more * 2 ^ v) := by simp only [Nat.mul_assoc, Nat.mul_comm, Nat.mul_left_comm]
          _ = A * n * (2 ^ K * 2 ^ u) := by rw [← Nat.pow_add, ← Nat.pow_add, hK]
          _ = A * 2 ^ K * n * 2 ^ u := by simp only [Nat.mul_assoc, Nat.mul_comm, Nat.mul_left_comm]
      exact Nat.eq_of_mul_eq_mul_right (Nat.two_pow_pos u) h5
    refine ⟨_, by
      unfold Format.div
      rw [hr, hr']
      simp only [Datum.quotient, if_neg hn]
      rfl, ?_⟩
    rw [← hmore, hdiv, Nat.mul_div_cancel _ (Nat.pos_of_ne_zero hn), Nat.mul_mod_left]
    simp only [bne_self_eq_false, Bool.toNat_false, Nat.add_zero]
    refine write_is double fit_double (n := a) ⟨-((K : Int) + 1), by omega, by omega, ?_⟩ (by decide) (by show a.natAbs < 9007199254740992; omega)
    rw [show (i - j - (more : Int) - 1 - -((K : Int) + 1)).toNat = 0 by omega, show (-((0 : Nat) : Int) - -((K : Int) + 1)).toNat = K + 1 by omega]
    have h6 : (2 * (A * 2 ^ K) * 2 ^ 0 : Nat) = A * 2 ^ (K + 1) := by
      rw [Nat.pow_zero, Nat.mul_one, Nat.pow_succ]; simp only [Nat.mul_assoc, Nat.mul_comm, Nat.mul_left_comm]
    rw [h6, Int.natCast_mul, ← Int.mul_assoc, hsign]

/-! ### Contracts -/
theorem product_ok {a b c d : Nat} {X Y U V : Int} (ha : Is single a 0 X) (hb : Is single b 0 Y) (hc : Is single c 0 U) (hd : Is single d 0 V) (bX : X.natAbs ≤ 100000) (bY : Y.natAbs ≤ 100000) (bU : U.natAbs ≤ 100000) (bV : V.natAbs ≤ 100000) :
    ∃ p q, (∀ w, Calls Tryz.prog 40 #[.complex .f32 a b, .complex .f32 c d] w fun e w' => e = .returned (.tuple #[.float .f64 p, .float .f64 q]) ∧ w' = w) ∧ Is double p 0 (X * U - Y * V) ∧ Is double q 0 (X * V + Y * U) := by
  obtain ⟨A, eA, iA⟩ := wide_is ha (by omega)
  obtain ⟨B, eB, iB⟩ := wide_is hb (by omega)
  obtain ⟨C, eC, iC⟩ := wide_is hc (by omega)
  obtain ⟨D, eD, iD⟩ := wide_is hd (by omega)
  have m1 := abs_mul bX bU
  have m2 := abs_mul bY bV
  have m3 := abs_mul bX bV
  have m4 := abs_mul bY bU
  obtain ⟨p1, e1, i1⟩ := mulD iA iC (by omega)
  obtain ⟨p2, e2, i2⟩ := mulD iB iD (by omega)
  obtain ⟨p3, e3, i3⟩ := subD i1 i2 (by omega)
  obtain ⟨q1, f1, j1⟩ := mulD iA iD (by omega)
  obtain ⟨q2, f2, j2⟩ := mulD iB iC (by omega)
  obtain ⟨q3, f3, j3⟩ := addD j1 j2 (by omega)
  exact ⟨p3, q3, fun w => zproduct a b c d A B C D p1 p2 p3 q1 q2 q3 eA eB eC eD e1 e2 e3 f1 f2 f3 w, i3, j3⟩
set_option maxHeartbeats 1000000 in
theorem MulComplex_of (a b c d p q P Q : Nat) (hp : ∀ w, Calls Tryz.prog 40 #[.complex .f32 a b, .complex .f32 c d] w fun e w' => e = .returned (.tuple #[.float .f64 p, .float .f64 q]) ∧ w' = w) (h1 : floatToFloatBits .f64 p .f32 = some P) (h2 : floatToFloatBits .f64 q .f32 = some Q) (w : World) :
    Calls Tryz.prog 7 #[.complex .f32 a b, .complex .f32 c d] w fun e w' => e = .returned (.complex .f32 P Q) ∧ w' = w := by
  have HP := keep hp
  have f1 := zconv64 _ _ h1
  have f2 := zconv64 _ _ h2
  clear hp h1 h2
  go_enter Tryz.func7, Tryz.ntmps7
  go_wp2_with fail
  refine (HP.out _).mono ?_
  rintro e w' ⟨rfl, hw⟩
  have hw := hw.symm
  subst hw
  go_wp2_with fail
  go_ret
  exact ⟨rfl, rfl⟩
theorem MulComplex_ok {a b c d : Nat} {X Y U V : Int} (ha : Is single a 0 X) (hb : Is single b 0 Y) (hc : Is single c 0 U) (hd : Is single d 0 V) (bX : X.natAbs ≤ 2000) (bY : Y.natAbs ≤ 2000) (bU : U.natAbs ≤ 2000) (bV : V.natAbs ≤ 2000) :
    ∃ P Q, (∀ w, Calls Tryz.prog 7 #[.complex .f32 a b, .complex .f32 c d] w fun e w' => e = .returned (.complex .f32 P Q) ∧ w' = w) ∧ Is single P 0 (X * U - Y * V) ∧ Is single Q 0 (X * V + Y * U) := by
  obtain ⟨p, q, hp, ip, iq⟩ := product_ok ha hb hc hd (by omega) (by omega) (by omega) (by omega)
  have m1 := abs_mul bX bU
  have m2 := abs_mul bY bV
  have m3 := abs_mul bX bV
  have m4 := abs_mul bY bU
  obtain ⟨P, eP, iP⟩ := narrow_is ip (by omega)
  obtain ⟨Q, eQ, iQ⟩ := narrow_is iq (by omega)
  exact ⟨P, Q, MulComplex_of a b c d p q P Q hp eP eQ, iP, iQ⟩
theorem power_ok {a b : Nat} {X Y : Int} (ha : Is single a 0 X) (hb : Is single b 0 Y) (bX : X.natAbs ≤ 100000) (bY : Y.natAbs ≤ 100000) :
    ∃ r, (∀ w, Calls Tryz.prog 41 #[.complex .f32 a b] w fun e w' => e = .returned (.float .f64 r) ∧ w' = w) ∧ Is double r 0 (X * X + Y * Y) := by
  obtain ⟨A, eA, iA⟩ := wide_is ha (by omega)
  obtain ⟨B, eB, iB⟩ := wide_is hb (by omega)
  have m1 := abs_mul bX bX
  have m2 := abs_mul bY bY
  obtain ⟨p1, e1, i1⟩ := mulD iA iA (by omega)
  obtain ⟨p2, e2, i2⟩ := mulD iB iB (by omega)
  obtain ⟨p3, e3, i3⟩ := addD i1 i2 (by omega)
  exact ⟨p3, fun w => zpower a b A B p1 p2 p3 eA eB e1 e2 e3 w, i3⟩
set_option maxHeartbeats 1000000 in
theorem PowerOf_of (a b r R : Nat) (hp : ∀ w, Calls Tryz.prog 41 #[.complex .f32 a b] w fun e w' => e = .returned (.float .f64 r) ∧ w' = w) (h1 : floatToFloatBits .f64 r .f32 = some R) (w : World) :
    Calls Tryz.prog 8 #[.complex .f32 a b] w fun e w' => e = .returned (.float .f32 R) ∧ w' = w := by
  have HP := keep hp
  have f1 := zconv64 _ _ h1
  clear hp h1
  go_enter Tryz.func8, Tryz.ntmps8
  go_wp2_with fail
  refine (HP.out _).mono ?_
  rintro e w' ⟨rfl, hw⟩
  have hw := hw.symm
  subst hw
  go_wp2_with fail
  go_ret
  exact ⟨rfl, rfl⟩
theorem PowerOf_ok {a b : Nat} {X Y : Int} (ha : Is single a 0 X) (hb : Is single b 0 Y) (bX : X.natAbs ≤ 2000) (bY : Y.natAbs ≤ 2000) :
    ∃ R, (∀ w, Calls Tryz.prog 8 #[.complex .f32 a b] w fun e w' => e = .returned (.float .f32 R) ∧ w' = w) ∧ Is single R 0 (X * X + Y * Y) := by
  obtain ⟨r, hr, ir⟩ := power_ok ha hb (by omega) (by omega)
  have m1 := abs_mul bX bX
  have m2 := abs_mul bY bY
  obtain ⟨R, eR, iR⟩ := narrow_is ir (by omega)
  exact ⟨R, PowerOf_of a b r R hr eR, iR⟩
theorem norm_pos {U V : Int} (h : ¬ (U = 0 ∧ V = 0)) : U * U + V * V ≠ 0 := by
  intro e
  have h1 : 0 ≤ U * U := by
    rcases Int.le_total 0 U with h | h
    · exact Int.mul_nonneg h h
    · exact Int.mul_nonneg_of_nonpos_of_nonpos h h
  have h2 : 0 ≤ V * V := by
    rcases Int.le_total 0 V with h | h
    · exact Int.mul_nonneg h h
    · exact Int.mul_nonneg_of_nonpos_of_nonpos h h
  have e1 : U * U = 0 := by omega
  have e2 : V * V = 0 := by omega
  refine h ⟨?_, ?_⟩
  · rcases Int.mul_eq_zero.1 e1 with h | h <;> exact h
  · rcases Int.mul_eq_zero.1 e2 with h | h <;> exact h
theorem QuotientOf_ok {P Q c d : Nat} {X Y U V : Int} (hP : Is single P 0 (X * U - Y * V)) (hQ : Is single Q 0 (X * V + Y * U)) (hc : Is single c 0 U) (hd : Is single d 0 V) (bX : X.natAbs ≤ 200) (bY : Y.natAbs ≤ 200) (bU : U.natAbs ≤ 200) (bV : V.natAbs ≤ 200) (hne : ¬ (U = 0 ∧ V = 0)) :
    ∃ S T, (∀ w, Calls Tryz.prog 13 #[.complex .f32 P Q, .complex .f32 c d] w fun e w' => e = .returned (.complex .f32 S T) ∧ w' = w) ∧ Is single S 0 X ∧ Is single T 0 Y := by
  have m1 := abs_mul bX bU
  have m2 := abs_mul bY bV
  have m3 := abs_mul bX bV
  have m4 := abs_mul bY bU
  obtain ⟨p, q, hp, ip, iq⟩ := product_ok hP hQ hc (negS hd) (by omega) (by omega) (by omega) (by omega)
  obtain ⟨r, hr, ir⟩ := power_ok hc hd (by omega) (by omega)
  have e1 : (X * U - Y * V) * U - (X * V + Y * U) * (-V) = X * (U * U + V * V) := by grind
  have e2 : (X * U - Y * V) * (-V) + (X * V + Y * U) * U = Y * (U * U + V * V) := by grind
  rw [e1] at ip
  rw [e2] at iq
  have hW := norm_pos hne
  obtain ⟨s, es, is⟩ := quo_exact ip ir hW (by omega)
  obtain ⟨t, et, it⟩ := quo_exact iq ir hW (by omega)
  obtain ⟨S, eS, iS⟩ := narrow_is is (by omega)
  obtain ⟨T, eT, iT⟩ := narrow_is it (by omega)
  exact ⟨S, T, fun w => zQuot P Q c d p q r s t S T hp hr es et eS eT w, iS, iT⟩

/-! ### Lengths -/
theorem square_wd (x : Int) (h : x.natAbs ≤ 200) : floatBits .mul .f64 (wd double 0 x) (wd double 0 x) = some (wd double 0 (x * x)) := by
  have m := abs_mul h h
  by_cases h0 : x = 0
  · subst h0
    rw [Int.zero_mul, wd_zero]; decide +kernel
  · have ix := wd_is double fit_double 0 x (by decide) (by show x.natAbs < 9007199254740992; omega)
    obtain ⟨r, er, ir⟩ := mulD ix ix (by omega)
    have hlt : r < 2 ^ double.width := by
      have e2 : double.mul (wd double 0 x) (wd double 0 x) = some r := er
      unfold Format.mul at e2
      cases hd : (double.read (wd double 0 x)).product (double.read (wd double 0 x)) with
      | none => rw [hd] at e2; cases e2
      | some d =>
        rw [hd] at e2
        injection e2 with e2
        rw [← e2, width_eq]
        exact write_lt double d
    rw [er, Is.unique (f := double) binade_le_double ir hlt (by
      intro e
      rcases Int.mul_eq_zero.1 e with h | h <;> exact h0 h)]
theorem zwiden_wd (a : Int) (ha : a.natAbs < 16777216) : floatToFloatBits .f32 (wd single 0 a) .f64 = some (wd double 0 a) := by
  obtain ⟨m, i, hr, hs⟩ := wd_read (f := single) fit_single binade_le_single (k := 0) (a := a) (by decide) (by show a.natAbs < 16777216; omega)
  have hw : double.nearest (decide (a < 0)) m i = wd double 0 a := by
    by_cases h0 : a = 0
    · have hm := hs.mag_zero.2 h0
      subst h0
      rw [hm, wd_zero]
      exact nearest_zero double i
    · exact Is.unique (f := double) binade_le_double (write_is double fit_double hs (by decide) (by show a.natAbs < 9007199254740992; omega)) (nearest_lt _ _ _ _) h0
  have hi := wd_is double fit_double 0 a (by decide) (by show a.natAbs < 9007199254740992; omega)
  unfold floatToFloatBits
  rw [if_neg (by decide), show FloatKind.f32.decode (wd single 0 a) = .number (decide (a < 0)) m i from hr]
  show (if (double.read (double.nearest (decide (a < 0)) m i)).isInfinity = true then none else some (double.nearest (decide (a < 0)) m i)) = _
  rw [hw, not_inf hi]
  rfl
theorem root_some (n : Int) (h0 : 0 ≤ n) (h1 : n ≤ 80000) : ∃ R L, double.sqrt (wd double 0 n) = some R ∧ floatToFloatBits .f64 R .f32 = some L ∧ L < 4294967296 := by
  obtain ⟨n1, v1⟩ := V_wd (f := double) fit_double 0 n (by decide) (by show n.natAbs < 9007199254740992; omega)
  have e0 : p2 (-((0 : Nat) : Int)) = 1 := by decide +kernel
  have c0 : (0 : Rat) ≤ (n : Rat) := Rat.intCast_nonneg.2 h0
  have c1 : (n : Rat) ≤ 80000 := by
    have := Rat.intCast_le_intCast.2 h1
    simpa using this
  rw [e0] at v1
  have e9 : p2 9 = 512 := by decide +kernel
  have hz : V double (wd double 0 n) = 0 → wd double 0 n = 0 := by
    intro h
    have h2 : (n : Rat) = 0 := by rw [v1] at h; grind
    have h3 : n = 0 := by simpa using h2
    rw [h3, wd_zero]
  obtain ⟨R, hR, nR, R0, _, R2⟩ := sqrt_near good_double n1 (by rw [v1]; grind) hz 9 (by rw [v1, e9]; grind) (ex_double (by omega) (by omega))
  have u := ulp_small (9 + 2) (by omega)
  have b2 := R2 512 (by decide) (by rw [v1]; grind)
  obtain ⟨L, hL, hl⟩ := narrow_some R nR (by
    have : (1024 : Rat) ≤ p2 100 := by decide +kernel
    unfold Cl; constructor <;> grind)
  exact ⟨R, L, hR, hL, hl⟩
set_option maxHeartbeats 1000000 in
theorem Root_of (x X R L : Nat) (h1 : floatToFloatBits .f32 x .f64 = some X) (h2 : double.sqrt X = some R) (h3 : floatToFloatBits .f64 R .f32 = some L) (w : World) :
    Calls Tryz.prog 12 #[.float .f32 x] w fun e w' => e = .returned (.float .f32 L) ∧ w' = w := by
  have S := keep (fun w => zSqrt X R h2 w)
  have f1 := zconv32 _ _ h1
  have f3 := zconv64 _ _ h3
  have NW : Kept (∀ w, Calls Tryz.prog 80 #[.float .f64 R] w fun e w' => e = .returned (.float .f32 L) ∧ w' = w) := keep (fun w => by
    clear S f1 h1 h2 h3
    go_enter Tryz.func80, Tryz.ntmps80
    go_wp2_with fail
    go_ret
    exact ⟨rfl, rfl⟩)
  have LS : Kept (∀ w, Calls Tryz.prog 44 #[.float .f32 x] w fun e w' => e = .returned (.float .f32 L) ∧ w' = w) := keep (fun w => by
    clear h1 h2 h3 f3
    go_enter Tryz.func44, Tryz.ntmps44
    go_wp2_with fail
    refine (S.out _).mono ?_
    rintro e w' ⟨rfl, hw⟩
    have hw := hw.symm
    subst hw
    go_wp2_with fail
    refine (NW.out _).mono ?_
    rintro e w' ⟨rfl, hw⟩
    have hw := hw.symm
    subst hw
    go_wp2_with fail
    go_ret
    exact ⟨rfl, rfl⟩)
  clear h1 h2 h3 f1 f3 S NW
  go_enter Tryz.func12, Tryz.ntmps12
  go_wp2_with fail
  refine (LS.out _).mono ?_
  rintro e w' ⟨rfl, hw⟩
  have hw := hw.symm
  subst hw
  go_wp2_with fail
  go_ret
  exact ⟨rfl, rfl⟩
/-- The length of a number, and the root of its power. -/
theorem Long_Root (X Y : Int) (bX : X.natAbs ≤ 200) (bY : Y.natAbs ≤ 200) : ∃ L, L < 4294967296 ∧ (∀ w, Calls Tryz.prog 11 #[.complex .f32 (wd single 0 X) (wd single 0 Y)] w fun e w' => e = .returned (.float .f32 L) ∧ w' = w) ∧ (∀ w, Calls Tryz.prog 12 #[.float .f32 (wd single 0 (X * X + Y * Y))] w fun e w' => e = .returned (.float .f32 L) ∧ w' = w) := by
  have m1 := abs_mul bX bX
  have m2 := abs_mul bY bY
  have h1 : 0 ≤ X * X := by
    rcases Int.le_total 0 X with h | h
    · exact Int.mul_nonneg h h
    · exact Int.mul_nonneg_of_nonpos_of_nonpos h h
  have h2 : 0 ≤ Y * Y := by
    rcases Int.le_total 0 Y with h | h
    · exact Int.mul_nonneg h h
    · exact Int.mul_nonneg_of_nonpos_of_nonpos h h
  obtain ⟨R, L, e1, e2, hl⟩ := root_some (X * X + Y * Y) (by omega) (by omega)
  have ad : floatBits .add .f64 (wd double 0 (X * X)) (wd double 0 (Y * Y)) = some (wd double 0 (X * X + Y * Y)) := add_wd (f := double) fit_double binade_le_double (by decide) (by show (X * X).natAbs < 9007199254740992; omega) (by show (Y * Y).natAbs < 9007199254740992; omega) (by show (X * X + Y * Y).natAbs < 9007199254740992; omega)
  exact ⟨L, hl, fun w => zLong _ _ _ _ _ _ _ R L (zwiden_wd X (by omega)) (zwiden_wd Y (by omega)) (square_wd X bX) (square_wd Y bY) ad e1 e2 w, fun w => Root_of _ _ R L (zwiden_wd _ (by omega)) e1 e2 w⟩

theorem toInt_all : ∀ n : Fin 401, floatToIntVal .f32 (wd single 0 ((n.val : Int) - 200)) .i64 = some ((n.val : Int) - 200) := by decide +kernel
theorem toInt_wd (x : Int) (h : x.natAbs ≤ 200) : floatToIntVal .f32 (wd single 0 x) .i64 = some x := by
  have e := toInt_all ⟨(x + 200).toNat, by omega⟩
  rw [show (((x + 200).toNat : Nat) : Int) - 200 = x by omega] at e
  exact e
theorem run_toInt (x : Int) (h : x.natAbs ≤ 200) (w : World) : (convert 28 2 (.float .f32 (wd single 0 x))).run Tryz.prog w = .ok (.int .i64 x) w :=
  run_convert_float_int w 28 2 .f32 .i64 _ x (by rw [Tryz.underlying28]; rfl) Tryz.underlying2 (toInt_wd x h)
theorem zcadd {a b c d re im : Nat} (h1 : floatBits .add .f32 a c = some re) (h2 : floatBits .add .f32 b d = some im) (t : TypeId) (w : World) : (binOp .add t (.complex .f32 a b) (.complex .f32 c d)).run Tryz.prog w = .ok (.complex .f32 re im) w :=
  run_complex_sum w .add (.inl rfl) t .f32 a b c d re im (by unfold cSumBits; rw [h1, h2]; rfl)
/-- Twice a number. -/
theorem twice_ok (X : Int) (bX : X.natAbs ≤ 200) : ∃ r s, floatBits .mul .f32 (wd single 0 X) 1073741824 = some r ∧ floatBits .add .f32 (wd single 0 X) (wd single 0 X) = some s ∧ FloatKind.f32.format.order r s = some .eq := by
  have ix := isS X (by omega)
  have i2 : Is single 1073741824 0 2 := by
    have := isS 2 (by decide)
    rw [show wd single 0 2 = 1073741824 by decide +kernel] at this
    exact this
  obtain ⟨r, er, ir⟩ := Is.mul (k := 0) (l := 0) fit_single ix i2 (by decide) (by show (X * 2).natAbs < 16777216; omega)
  obtain ⟨s, es, is⟩ := Is.add fit_single ix ix (by decide) (by show (X + X).natAbs < 16777216; omega)
  refine ⟨r, s, er, es, ?_⟩
  show single.order r s = _
  rw [Is.order ir is, show X * 2 = X + X by omega, Int.compare_eq_eq.2 rfl]
theorem order_same {a b : Nat} {n : Int} (ha : Is single a 0 n) (hb : Is single b 0 n) : FloatKind.f32.format.order a b = some .eq := by
  show single.order a b = _
  rw [Is.order ha hb, Int.compare_eq_eq.2 rfl]
end Go.Proofs.YtcmppipilihmkaaGreatDoor
