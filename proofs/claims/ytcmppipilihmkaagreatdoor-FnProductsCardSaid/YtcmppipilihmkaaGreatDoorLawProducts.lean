/- The law FnProducts by its walk: products of complex numbers of small whole parts are exact, do not depend on the order, and quotients lead back from them; bits and texts of any numbers are read back. Conditions: that the bytes can be read; what three of the library's variables hold. -/
import Derived.Test.YtcmppipilihmkaaGreatDoorZj
namespace Go.Proofs.YtcmppipilihmkaaGreatDoor
open Go.RowKit Go.Sort Ieee
set_option linter.unusedSimpArgs false

theorem yaft {w w' : World} {a : Option Addr} {n : Nat} (h : Bytes w a n) (hb : Below w.heap.size w w') : Bytes w' a n :=
  h.later hb (fun b o e hn => by
    obtain ⟨b', o', e', hl, _⟩ := h 0 hn
    rw [e] at e'
    injection e' with e'
    injection e' with e'
    omega)

/-! ### Are two the same -/
set_option maxHeartbeats 1000000 in
theorem iSameNumber_ok (a b : Nat) (w : World) (ha : a < 4294967296) (hb : b < 4294967296) : Calls Tryz.prog 60 #[.float .f32 a, .float .f32 b] w fun e w' => e = .returned (.bool (cb a == cb b)) ∧ w' = w := by
  have A := keep (fun w => BitsOf_any a w ha)
  have B := keep (fun w => BitsOf_any b w hb)
  have e : (((cb a : Nat) : Int) == ((cb b : Nat) : Int)) = (cb a == cb b) := by
    rw [Bool.eq_iff_iff]; simp; omega
  clear ha hb
  generalize cb a = x at *
  generalize cb b = y at *
  go_enter Tryz.func60, Tryz.ntmps60
  go_wp2_with fail
  refine (A.out _).mono ?_
  rintro e w' ⟨rfl, rfl⟩
  go_wp2_with fail
  refine (B.out _).mono ?_
  rintro e w' ⟨rfl, rfl⟩
  go_wp2_with fail
  go_ret
  exact ⟨by rw [← e]; rfl, rfl⟩
set_option maxHeartbeats 1000000 in
/-- Of numbers of the same bits the program says yes. -/
theorem iSameC_yes (a b c d : Nat) (w : World) (ha : a < 4294967296) (hb : b < 4294967296) (hc : c < 4294967296) (hd : d < 4294967296) (h1 : cb a = cb c) (h2 : cb b = cb d) : Calls Tryz.prog 24 #[.complex .f32 a b, .complex .f32 c d] w fun e w' => e = .returned (.bool true) ∧ w' = w := by
  have A := keep (fun w => iSameNumber_ok a c w ha hc)
  have B := keep (fun w => iSameNumber_ok b d w hb hd)
  rw [h1, beq_self_eq_true] at A
  rw [h2, beq_self_eq_true] at B
  clear ha hb hc hd h1 h2
  go_enter Tryz.func24, Tryz.ntmps24
  go_wp2_with fail
  refine (A.out _).mono ?_
  rintro e w' ⟨rfl, rfl⟩
  go_wp2_with fail
  refine (B.out _).mono ?_
  rintro e w' ⟨rfl, rfl⟩
  go_wp2_with fail
  go_ret
  exact ⟨rfl, rfl⟩
set_option maxHeartbeats 1000000 in
theorem sSameC_yes (a b c d : Nat) (w : World) (ha : a < 4294967296) (hb : b < 4294967296) (hc : c < 4294967296) (hd : d < 4294967296) (h1 : cb a = cb c) (h2 : cb b = cb d) : Calls Tryz.prog 59 #[.complex .f32 a b, .complex .f32 c d] w fun e w' => e = .returned (.bool true) ∧ w' = w := by
  have A := keep (fun w => same_ok a c w ha hc)
  have B := keep (fun w => same_ok b d w hb hd)
  rw [h1, beq_self_eq_true] at A
  rw [h2, beq_self_eq_true] at B
  have CS : Kept (∀ w, Calls Tryz.prog 85 #[.complex .f32 a b, .complex .f32 c d] w fun e w' => e = .returned (.bool true) ∧ w' = w) := keep (fun w => by
    clear ha hb hc hd h1 h2
    go_enter Tryz.func85, Tryz.ntmps85
    go_wp2_with fail
    refine (A.out _).mono ?_
    rintro e w' ⟨rfl, rfl⟩
    go_wp2_with fail
    refine (B.out _).mono ?_
    rintro e w' ⟨rfl, rfl⟩
    go_wp2_with fail
    go_ret
    exact ⟨rfl, rfl⟩)
  clear ha hb hc hd h1 h2 A B
  go_enter Tryz.func59, Tryz.ntmps59
  go_wp2_with fail
  refine (CS.out _).mono ?_
  rintro e w' ⟨rfl, rfl⟩
  go_wp2_with fail
  go_ret
  exact ⟨rfl, rfl⟩
theorem Prs.cell {w : World} {B n c : Nat} {A : Option Addr} {xs : List (Nat × Nat)} (h : Prs w B (.slice A n c) xs) (i : Nat) (hi : i < xs.length) : ∃ g, A = some ⟨g, 0, none⟩ ∧ g < w.heap.size ∧ w.cell? ⟨g, i, none⟩ = some (.complex .f32 xs[i].1 xs[i].2) := by
  obtain ⟨g, c2, e, _, _⟩ := h.form (by omega)
  injection e with e1 e2 e3
  have hc := h.cells (g := g) (by rw [e1]; rfl) i (cv xs[i]) (by rw [List.getElem?_map, List.getElem?_eq_getElem hi]; rfl)
  rw [Addr.add_lit, Nat.zero_add] at hc
  exact ⟨g, e1, World.block_lt_of_cell? w _ hc, hc⟩
set_option maxHeartbeats 4000000 in
theorem b10Same_yes (B1 B2 n c c2 : Nat) (A1 A2 : Option Addr) (xs : List (Nat × Nat)) (w : World) (h1 : Prs w B1 (.slice A1 n c) (xs.map cb2)) (h2 : Prs w B2 (.slice A2 n c2) xs) (hx : ∀ x ∈ xs, P32 x) (hn : n = xs.length) (hN : xs.length ≤ 1000) :
    Calls Tryz.prog 23 #[.slice A1 n c, .slice A2 n c2] w fun e w' => e = .returned (.bool true) ∧ ∃ m, w' = w.drewN m := by
  subst hn
  have H1 := keep (fun i hi => h1.cell i hi)
  have H2 := keep (fun i hi => h2.cell i hi)
  have HX := keep hx
  clear h1 h2 hx
  go_enter Tryz.func23, Tryz.ntmps23
  go_wp2_with fail
  go_loopw [13] (fun t wr => ∃ (i m : Nat), t = .int .i64 i ∧ i ≤ xs.length ∧ wr = w.drewN m) (fun t _ => xs.length - (intOf t).toNat)
  case atStart => exact ⟨0, 0, rfl, by omega, rfl⟩
  case round =>
    obtain ⟨i, m, rfl, hi, hwr⟩ := hrel
    by_cases hlt : i < xs.length
    · obtain ⟨g, hA, hg, hc⟩ := H1.out i (by rw [List.length_map]; exact hlt)
      obtain ⟨g2, hA2, hg2, hc2⟩ := H2.out i hlt
      subst hA
      subst hA2
      have hx := HX.out _ (List.getElem_mem hlt)
      have d1 : wr.cell? ⟨g, i, none⟩ = some (.complex .f32 (cb xs[i].1) (cb xs[i].2)) := by
        rw [hwr]
        rw [List.getElem_map] at hc
        exact hc
      have d2 : wr.cell? ⟨g2, i, none⟩ = some (.complex .f32 xs[i].1 xs[i].2) := by rw [hwr]; exact hc2
      have SX := keep (fun w => sSameC_yes (cb xs[i].1) (cb xs[i].2) xs[i].1 xs[i].2 w (cb_lt hx.1) (cb_lt hx.2) hx.1 hx.2 (cb_cb _) (cb_cb _))
      have hltI : (i : Int) < (xs.length : Int) := by omega
      have hI0 : (0 : Int) ≤ (i : Int) := by omega
      have HWR := keep hwr
      clear hc hg hc2 hg2 hwr hx
      generalize cb xs[i].1 = q1 at *
      generalize cb xs[i].2 = q2 at *
      generalize xs[i].1 = q3 at *
      generalize xs[i].2 = q4 at *
      go_wp2_with fail
      go_quiet (first | (go_at_call 59; exact Calls.quiet_of_same (SX.out _)))
      go_wp2_with fail
      go_roundw
      case rel =>
        first
          | exact ⟨i + 1, m, by go_num, by omega, HWR.out⟩
          | exact ⟨i + 1, _, by go_num, by omega, by rw [HWR.out, World.drewN_drewN]⟩
      case measure => simp [intOf]; omega
    · obtain rfl : i = xs.length := by omega
      have HWR := keep hwr
      clear hwr
      go_wp2_with fail
      go_ret
      exact ⟨rfl, m, HWR.out⟩

/-! ### Narrowed again -/
theorem run_narrow_any (w : World) (b r : Nat) (hb : b < 4294967296) (hr : FEq .f64 r (widen b)) : ∃ z m, (convert 46 28 (.float .f64 r)).run Tryz.prog w = .ok (.float .f32 z) (w.drewN m) ∧ z < 4294967296 ∧ cb z = cb b := by
  cases hn : isNaN .f32 b
  · have e1 : floatToFloatBits .f64 (widen b) .f32 = some b := narrow_widen hb hn
    have hw : isNaN .f64 (widen b) = false := by
      cases hq : isNaN .f64 (widen b)
      · rfl
      · exfalso
        obtain ⟨s, t, e⟩ := read_nan_of hq
        unfold floatToFloatBits at e1
        rw [if_neg (by decide), show FloatKind.f64.decode (widen b) = .nan s t from e] at e1
        cases e1
    have e := hr.eq hw
    subst e
    exact ⟨b, 0, zconv64 _ _ e1 w, hb, rfl⟩
  · obtain ⟨s, t, e⟩ := read_nan_of hn
    have e' : FloatKind.f32.decode b = .nan s t := e
    have ew : widen b = qnan .f64 := by unfold widen; rw [e']
    have hrn : isNaN .f64 r = true := by
      rw [hr.nan, ew]; exact qnan_nan .f64
    obtain ⟨z, m, hrun, hz, hl⟩ := run_narrow_nan w r hrn
    exact ⟨z, m, hrun, hl, by rw [cb_nan hz, cb_nan hn]⟩
set_option maxHeartbeats 1000000 in
theorem NarrowComplex_back (a b r s : Nat) (w : World) (ha : a < 4294967296) (hb : b < 4294967296) (hr : FEq .f64 r (widen a)) (hs : FEq .f64 s (widen b)) : Calls Tryz.prog 25 #[.complex .f64 r s] w fun e w' => ∃ z y m, e = .returned (.complex .f32 z y) ∧ (z < 4294967296 ∧ y < 4294967296) ∧ (cb z = cb a ∧ cb y = cb b) ∧ w' = w.drewN m := by
  obtain ⟨z, m1, h1, l1, c1⟩ := run_narrow_any w a r ha hr
  obtain ⟨y, m2, h2, l2, c2⟩ := run_narrow_any (w.drewN m1) b s hb hs
  have L := keep (And.intro l1 l2)
  have C := keep (And.intro c1 c2)
  clear ha hb hr hs l1 l2 c1 c2
  go_enter Tryz.func25, Tryz.ntmps25
  go_wp2_with fail
  go_ret
  exact ⟨z, y, m1 + m2, rfl, L.out, C.out, by first | rfl | rw [World.drewN_drewN]⟩
theorem sIsFinite_ok (b : Nat) (w : World) : Calls Tryz.prog 27 #[.float .f32 b] w fun e w' => e = .returned (.bool (fin .f32 b)) ∧ ∃ m, w' = w.drewN m := by
  have F := keep (l01Finite32 b w)
  go_enter Tryz.func27, Tryz.ntmps27
  go_wp2_with fail
  refine F.out.mono ?_
  rintro e w' ⟨rfl, m, rfl⟩
  go_wp2_with fail
  go_ret
  exact ⟨rfl, m, rfl⟩

/-! ### The numbers of the first half -/
theorem z1073 : (1073741824 : Nat) = 1073741824 := rfl
/-- All that is told of two numbers of whole parts, their words by letters. -/
structure Told (xa ya ua va : Nat) (X Y U V : Int) where
  P : Nat
  Q : Nat
  P' : Nat
  Q' : Nat
  R : Nat
  C : Nat
  D : Nat
  L : Nat
  nv : Nat
  mul : ∀ w, Calls Tryz.prog 7 #[.complex .f32 xa ya, .complex .f32 ua va] w fun e w' => e = .returned (.complex .f32 P Q) ∧ w' = w
  mul2 : ∀ w, Calls Tryz.prog 7 #[.complex .f32 ua va, .complex .f32 xa ya] w fun e w' => e = .returned (.complex .f32 P' Q') ∧ w' = w
  pow : ∀ w, Calls Tryz.prog 8 #[.complex .f32 xa ya] w fun e w' => e = .returned (.float .f32 R) ∧ w' = w
  conj : ∀ w, Calls Tryz.prog 9 #[.complex .f32 xa ya] w fun e w' => e = .returned (.complex .f32 xa nv) ∧ w' = w
  mul3 : ∀ w, Calls Tryz.prog 7 #[.complex .f32 xa ya, .complex .f32 xa nv] w fun e w' => e = .returned (.complex .f32 C D) ∧ w' = w
  long : ∀ w, Calls Tryz.prog 11 #[.complex .f32 xa ya] w fun e w' => e = .returned (.float .f32 L) ∧ w' = w
  root : ∀ w, Calls Tryz.prog 12 #[.float .f32 (floatOfInt .f32 (X * X + Y * Y))] w fun e w' => e = .returned (.float .f32 L) ∧ w' = w
  same : ∀ w, Calls Tryz.prog 10 #[.float .f32 L, .float .f32 L] w fun e w' => e = .returned (.bool true) ∧ w' = w
  o1 : FloatKind.f32.format.order P (floatOfInt .f32 (X * U - Y * V)) = some .eq
  o2 : FloatKind.f32.format.order Q (floatOfInt .f32 (X * V + Y * U)) = some .eq
  o3 : FloatKind.f32.format.order P' P = some .eq
  o4 : FloatKind.f32.format.order Q' Q = some .eq
  o5 : FloatKind.f32.format.order R (floatOfInt .f32 (X * X + Y * Y)) = some .eq
  o6 : FloatKind.f32.format.order C (floatOfInt .f32 (X * X + Y * Y)) = some .eq
  o7 : FloatKind.f32.format.order D 0 = some .eq
  ints : (∀ w, (convert 28 2 (.float .f32 xa)).run Tryz.prog w = .ok (.int .i64 X) w) ∧ (∀ w, (convert 28 2 (.float .f32 ya)).run Tryz.prog w = .ok (.int .i64 Y) w) ∧ (∀ w, (convert 28 2 (.float .f32 ua)).run Tryz.prog w = .ok (.int .i64 U) w) ∧ (∀ w, (convert 28 2 (.float .f32 va)).run Tryz.prog w = .ok (.int .i64 V) w)
  back : (FloatKind.f32.format.order ua 0 = some .eq ∧ FloatKind.f32.format.order va 0 = some .eq) ∨ (((FloatKind.f32.format.order ua 0 == some .eq) = false ∨ (FloatKind.f32.format.order ua 0 = some .eq ∧ (FloatKind.f32.format.order va 0 == some .eq) = false)) ∧ ∃ S T, (∀ w, Calls Tryz.prog 13 #[.complex .f32 P Q, .complex .f32 ua va] w fun e w' => e = .returned (.complex .f32 S T) ∧ w' = w) ∧ FloatKind.f32.format.order S xa = some .eq ∧ FloatKind.f32.format.order T ya = some .eq)
  twice : ∃ r1 r2 s1 s2, (∀ w, Calls Tryz.prog 14 #[.complex .f32 xa ya, .float .f32 1073741824] w fun e w' => e = .returned (.complex .f32 r1 r2) ∧ w' = w) ∧ (∀ (t : TypeId) (w : World), (binOp .add t (.complex .f32 xa ya) (.complex .f32 xa ya)).run Tryz.prog w = .ok (.complex .f32 s1 s2) w) ∧ FloatKind.f32.format.order r1 s1 = some .eq ∧ FloatKind.f32.format.order r2 s2 = some .eq
  small : (X * U).natAbs ≤ 40000 ∧ (Y * V).natAbs ≤ 40000 ∧ (X * V).natAbs ≤ 40000 ∧ (Y * U).natAbs ≤ 40000 ∧ (X * X).natAbs ≤ 40000 ∧ (Y * Y).natAbs ≤ 40000

theorem zero_wd : wd single 0 0 = 0 := wd_zero single 0
theorem told (X Y U V : Int) (bX : X.natAbs ≤ 200) (bY : Y.natAbs ≤ 200) (bU : U.natAbs ≤ 200) (bV : V.natAbs ≤ 200) : Nonempty (Told (wd single 0 X) (wd single 0 Y) (wd single 0 U) (wd single 0 V) X Y U V) := by
  have iX := isS X (by omega)
  have iY := isS Y (by omega)
  have iU := isS U (by omega)
  have iV := isS V (by omega)
  have m1 : (X * U).natAbs ≤ 40000 := abs_mul bX bU
  have m2 : (Y * V).natAbs ≤ 40000 := abs_mul bY bV
  have m3 : (X * V).natAbs ≤ 40000 := abs_mul bX bV
  have m4 : (Y * U).natAbs ≤ 40000 := abs_mul bY bU
  have m5 : (X * X).natAbs ≤ 40000 := abs_mul bX bX
  have m6 : (Y * Y).natAbs ≤ 40000 := abs_mul bY bY
  have i0 : Is single 0 0 0 := by have := isS 0 (by decide); rwa [zero_wd] at this
  obtain ⟨P, Q, hm, iP, iQ⟩ := MulComplex_ok iX iY iU iV (by omega) (by omega) (by omega) (by omega)
  obtain ⟨P', Q', hm2, iP', iQ'⟩ := MulComplex_ok iU iV iX iY (by omega) (by omega) (by omega) (by omega)
  obtain ⟨R, hR, iR⟩ := PowerOf_ok iX iY (by omega) (by omega)
  obtain ⟨C, D, hm3, iC, iD⟩ := MulComplex_ok iX iY iX (negS iY) (by omega) (by omega) (by omega) (by omega)
  obtain ⟨L, hL, l1, l2⟩ := Long_Root X Y bX bY
  obtain ⟨r1, s1, t1, t2, t3⟩ := twice_ok X bX
  obtain ⟨r2, s2, t4, t5, t6⟩ := twice_ok Y bY
  have eP : U * X - V * Y = X * U - Y * V := by grind
  have eQ : U * Y + V * X = X * V + Y * U := by grind
  have eC : X * X - Y * -Y = X * X + Y * Y := by grind
  have eD : X * -Y + Y * X = 0 := by grind
  rw [eP] at iP'
  rw [eQ] at iQ'
  rw [eC] at iC
  rw [eD] at iD
  have hsame : ∀ w, Calls Tryz.prog 10 #[.float .f32 L, .float .f32 L] w fun e w' => e = .returned (.bool true) ∧ w' = w := fun w => by
    have h := SameNumber_ok L L w hL hL
    rw [beq_self_eq_true] at h
    exact h
  refine ⟨{ P := P, Q := Q, P' := P', Q' := Q', R := R, C := C, D := D, L := L, nv := Op.negFloat .f32 (wd single 0 Y), mul := hm, mul2 := hm2, pow := hR, conj := fun w => zConj _ _ w, mul3 := hm3, long := l1, root := l2, same := hsame, o1 := order_same iP (isS _ (by omega)), o2 := order_same iQ (isS _ (by omega)), o3 := order_same iP' iP, o4 := order_same iQ' iQ, o5 := order_same iR (isS _ (by omega)), o6 := order_same iC (isS _ (by omega)), o7 := order_same iD i0, ints := ⟨run_toInt X bX, run_toInt Y bY, run_toInt U bU, run_toInt V bV⟩, back := ?_, twice := ⟨r1, r2, s1, s2, fun w => zScale _ _ _ _ _ t1 t4 w, zcadd t2 t5, t3, t6⟩, small := ⟨m1, m2, m3, m4, m5, m6⟩ }⟩
  have ou : ∀ (n : Int), n.natAbs ≤ 200 → n ≠ 0 → (FloatKind.f32.format.order (wd single 0 n) 0 == some .eq) = false := by
    intro n hn h0
    rw [show FloatKind.f32.format.order (wd single 0 n) 0 = single.order (wd single 0 n) 0 from rfl, Is.order (isS n (by omega)) i0, beq_eq_false_iff_ne]
    intro e
    injection e with e
    exact h0 (Int.compare_eq_eq.1 e)
  have oz : ∀ (n : Int), n = 0 → FloatKind.f32.format.order (wd single 0 n) 0 = some .eq := by
    intro n h0
    subst h0
    exact order_same (isS 0 (by decide)) i0
  by_cases hz : U = 0 ∧ V = 0
  · exact .inl ⟨oz U hz.1, oz V hz.2⟩
  · right
    obtain ⟨S, T, hq, iS, iT⟩ := QuotientOf_ok iP iQ iU iV bX bY bU bV hz
    refine ⟨?_, S, T, hq, order_same iS iX, order_same iT iY⟩
    by_cases hU : U = 0
    · exact .inr ⟨oz U hU, ou V bV (fun e => hz ⟨hU, e⟩)⟩
    · exact .inl (ou U bU hU)

set_option maxHeartbeats 16000000 in
set_option maxRecDepth 100000 in
theorem lawProducts_any (a1 a2 : Option Addr) (n1 c1 n2 c2 : Nat) (w : World) (hb1 : Bytes w a1 n1) (hb2 : Bytes w a2 n2) (hmx : MX w) (her : ER w) (htz : TZ w) (h0 : 0 < w.heap.size) :
    Calls Tryz.prog 3 #[.slice a1 n1 c1, .slice a2 n2 c2] w fun e w' => e = .returned (.bool true) ∧ Below w.heap.size w w' := by
  have LO := keep (fun w => zb10Long a1 a2 n1 c1 n2 c2 w)
  cases hl : (decide (1048576 < n1) || decide (1048576 < n2))
  case true =>
    rw [hl] at LO
    clear hl hb1 hb2 hmx her htz
    go_enter Tryz.func3, Tryz.ntmps3
    go_wp2_with fail
    refine (LO.out _).mono ?_
    rintro e w' ⟨rfl, rfl⟩
    go_wp2_with fail
    go_ret
    exact ⟨rfl, Below.refl _ _⟩
  case false =>
    rw [hl] at LO
    have HB1 := keep hb1
    have HB2 := keep hb2
    have HMX := keep hmx
    have HER := keep her
    have HTZ := keep htz
    clear hl hb1 hb2 hmx her htz
    go_enter Tryz.func3, Tryz.ntmps3
    go_wp2_with fail
    refine (LO.out _).mono ?_
    rintro e w' ⟨rfl, hw⟩
    have hw := hw.symm
    subst hw
    clear LO
    go_wp2_with fail
    refine (B10Whole_ok a1 n1 c1 w HB1.out).mono ?_
    rintro e w1 ⟨X, Y, b1, k1, bX, bY, rfl, hl1, hc1, hb⟩
    have B1 := keep hb
    clear hb
    go_wp2_with fail
    refine (B10Whole_ok a2 n2 c2 w1 (yaft HB2.out B1.out)).mono ?_
    rintro e w2 ⟨U, V, b2, k2, bU, bV, rfl, hl2, hc2, hb⟩
    have B2 := keep (B1.out.trans (hb.mono B1.out.size))
    obtain ⟨T⟩ := told X Y U V bX bY bU bV
    clear hb B1 hl1 hc1
    generalize wd single 0 X = xa at *
    generalize wd single 0 Y = ya at *
    generalize wd single 0 U = ua at *
    generalize wd single 0 V = va at *
    obtain ⟨P, Q, P', Q', R, C, D, L, nv, mul, mul2, pow, conj, mul3, long, root, same, o1, o2, o3, o4, o5, o6, o7, ⟨i1, i2, i3, i4⟩, back, ⟨r1, r2, s1, s2, sc, ad, o8, o9⟩, ⟨q1, q2, q3, q4, q5, q6⟩⟩ := T
    have MU := keep mul
    have MU2 := keep mul2
    have PW := keep pow
    have CJ := keep conj
    have MU3 := keep mul3
    have LG := keep long
    have RT := keep root
    have SM := keep same
    have SC := keep sc
    have BK := keep back
    clear mul mul2 pow conj mul3 long root same sc back bX bY bU bV
    have hw1 : IntKind.i64.wrap (X * U) = X * U := IntWalk.i64_in _ ⟨by omega, by omega⟩
    have hw2 : IntKind.i64.wrap (Y * V) = Y * V := IntWalk.i64_in _ ⟨by omega, by omega⟩
    have hw3 : IntKind.i64.wrap (X * V) = X * V := IntWalk.i64_in _ ⟨by omega, by omega⟩
    have hw4 : IntKind.i64.wrap (Y * U) = Y * U := IntWalk.i64_in _ ⟨by omega, by omega⟩
    have hw5 : IntKind.i64.wrap (X * X) = X * X := IntWalk.i64_in _ ⟨by omega, by omega⟩
    have hw6 : IntKind.i64.wrap (Y * Y) = Y * Y := IntWalk.i64_in _ ⟨by omega, by omega⟩
    have hw7 : IntKind.i64.wrap (X * U - Y * V) = X * U - Y * V := IntWalk.i64_in _ ⟨by omega, by omega⟩
    have hw8 : IntKind.i64.wrap (X * V + Y * U) = X * V + Y * U := IntWalk.i64_in _ ⟨by omega, by omega⟩
    have hw9 : IntKind.i64.wrap (X * X + Y * Y) = X * X + Y * Y := IntWalk.i64_in _ ⟨by omega, by omega⟩
    clear q1 q2 q3 q4 q5 q6
    go_wp2_with fail
    refine (MU.out _).mono ?_
    rintro e w' ⟨rfl, hw⟩
    have hw := hw.symm
    subst hw
    go_wp2_with fail
    refine (MU2.out _).mono ?_
    rintro e w' ⟨rfl, hw⟩
    have hw := hw.symm
    subst hw
    go_wp2_with fail
    refine (PW.out _).mono ?_
    rintro e w' ⟨rfl, hw⟩
    have hw := hw.symm
    subst hw
    go_wp2_with fail
    refine (CJ.out _).mono ?_
    rintro e w' ⟨rfl, hw⟩
    have hw := hw.symm
    subst hw
    go_wp2_with fail
    refine (MU3.out _).mono ?_
    rintro e w' ⟨rfl, hw⟩
    have hw := hw.symm
    subst hw
    go_wp2_with fail
    refine (LG.out _).mono ?_
    rintro e w' ⟨rfl, hw⟩
    have hw := hw.symm
    subst hw
    go_wp2_with fail
    refine (RT.out _).mono ?_
    rintro e w' ⟨rfl, hw⟩
    have hw := hw.symm
    subst hw
    go_wp2_with fail
    refine (SM.out _).mono ?_
    rintro e w' ⟨rfl, hw⟩
    have hw := hw.symm
    subst hw
    clear hw1 hw2 hw3 hw4 hw5 hw6 hw7 hw8 hw9 i1 i2 i3 i4 MU MU2 PW CJ MU3 LG RT SM
    rcases BK.out with ⟨z1, z2⟩ | ⟨hz, S, T, HQ, o10, o11⟩
    · clear BK
      go_wp2_with fail
      refine (SC.out _).mono ?_
      rintro e w' ⟨rfl, hw⟩
      have hw := hw.symm
      subst hw
      go_wp2_with fail
      refine (zb10At a1 n1 c1 0 9 _ (yaft HB1.out B2.out) (by omega) (by omega) (by omega)).mono ?_
      rintro e w' ⟨⟨r, hr, rfl⟩, hw⟩
      have hw := hw.symm
      subst hw
      go_wp2_with fail
      refine (B10Any_ok a2 n2 c2 r _ (yaft HB2.out B2.out) (by omega)).mono ?_
      rintro e w4 ⟨xs, A, cp, hxl, hx32, rfl, ho, hb⟩
      obtain rfl := hxl
      have B4 := keep (B2.out.trans (hb.mono B2.out.size))
      have HO := keep ho
      have HX := keep hx32
      clear hb ho hx32
      go_wp2_with fail
      refine (ComplexText_ok w2.heap.size xs.length cp A xs w4 HO.out HX.out (by omega) rfl (HTZ.out.below B4.out (Nat.le_refl _))).mono ?_
      rintro e w5 ⟨rfl, hb⟩
      have B5 := keep (B4.out.trans (hb.mono B4.out.size))
      have HO5 := keep (show Prs w5 w2.heap.size (.slice A xs.length cp) xs from owns_below HO.out hb)
      have GT := keep (text_pairs xs (by omega) HX.out)
      have TL := textL_size 16 (xs.map ctx) (fun p hp => by
        obtain ⟨b, hb, rfl⟩ := List.mem_map.1 hp
        show (hex8 (cb b.1) ++ hex8 (cb b.2)).length = 16
        rw [List.length_append, hex8_len _ (cb_lt (HX.out b hb).1), hex8_len _ (cb_lt (HX.out b hb).2)]) (by rw [List.length_map]; omega) (by omega)
      clear hb HO B4
      generalize textL (xs.map ctx) = tl at *
      go_wp2_with fail
      refine (ReadComplex_any tl w5 (by omega) (HMX.out.below B5.out (Nat.le_refl _) h0) (HER.out.below B5.out (Nat.le_refl _)) (HTZ.out.below B5.out (Nat.le_refl _))).mono ?_
      rintro e w6 ⟨hg, hb⟩
      have B6 := keep (B5.out.trans (hb.mono B5.out.size))
      have HO6 := keep (show Prs w6 w2.heap.size (.slice A xs.length cp) xs from owns_below HO5.out hb)
      obtain ⟨A2, cp2, he, HR6⟩ : ∃ (A2 : Option Addr) (cp2 : Nat), e = .returned (.tuple #[.slice A2 xs.length cp2, .bool true]) ∧ Kept (Prs w6 w5.heap.size (.slice A2 xs.length cp2) (xs.map cb2)) := by
        rcases hg with ⟨gn, _⟩ | ⟨cs, A2, c2, gs, he, ho⟩
        · rw [GT.out] at gn; cases gn
        · rw [GT.out] at gs
          injection gs with gs
          subst gs
          have e1 : (xs.map cb2).length = xs.length := List.length_map _
          refine ⟨A2, c2, by rw [he, e1], keep ?_⟩
          show w6.ownsRow _ _ 1 (.slice A2 xs.length c2) (xs.map cb2).length _
          have ho2 := ho
          rw [e1] at ho2 ⊢
          exact ho2
      subst he
      clear hg hb HO5 B5 GT TL
      go_wp2_with fail
      refine (B10Number_ok a1 n1 c1 w6 (yaft HB1.out B6.out)).mono ?_
      rintro e w7 ⟨x, hx, rfl, hb⟩
      have B7 := keep (B6.out.trans (hb.mono B6.out.size))
      have HO7 := keep (show Prs w7 w2.heap.size (.slice A xs.length cp) xs from owns_below HO6.out hb)
      have HR7 := keep (show Prs w7 w5.heap.size (.slice A2 xs.length cp2) (xs.map cb2) from owns_below HR6.out hb)
      have BO := keep (fun w => BitsOf_any x w hx)
      have FB := keep (fun w => FromBits_ok (cb x) w (cb_lt hx))
      have S1 := keep (show ∀ (w : World), Calls Tryz.prog 10 #[.float .f32 (cb x), .float .f32 x] w fun e w' => e = .returned (.bool true) ∧ w' = w from fun w => by
        have h := SameNumber_ok (cb x) x w (cb_lt hx) hx
        rw [cb_cb, beq_self_eq_true] at h
        exact h)
      clear hb B6 HO6 HR6 hx
      generalize cb x = cx at *
      go_wp2_with fail
      refine (BO.out _).mono ?_
      rintro e w' ⟨rfl, hw⟩
      have hw := hw.symm
      subst hw
      go_wp2_with fail
      refine (FB.out _).mono ?_
      rintro e w' ⟨rfl, hw⟩
      have hw := hw.symm
      subst hw
      go_wp2_with fail
      refine (B10Complex_ok a1 n1 c1 w7 (yaft HB1.out B7.out)).mono ?_
      rintro e w8 ⟨⟨p1, p2⟩, ⟨hp1, hp2⟩, rfl, hb⟩
      have B8 := keep (B7.out.trans (hb.mono B7.out.size))
      have HO8 := keep (show Prs w8 w2.heap.size (.slice A xs.length cp) xs from owns_below HO7.out hb)
      have HR8 := keep (show Prs w8 w5.heap.size (.slice A2 xs.length cp2) (xs.map cb2) from owns_below HR7.out hb)
      obtain ⟨d1, m1, hd1, fd1, _⟩ := run_widen_lt w8 p1
      obtain ⟨d2, m2, hd2, fd2, _⟩ := run_widen_lt (w8.drewN m1) p2
      have NB := keep (fun w => NarrowComplex_back p1 p2 d1 d2 w hp1 hp2 fd1 fd2)
      have BS := keep (b10Same_yes w5.heap.size w2.heap.size xs.length cp2 cp A2 A xs ((w8.drewN m1).drewN m2) HR8.out HO8.out HX.out rfl (by omega))
      have HP := keep (And.intro hp1 hp2)
      have SB := keep (fun z y w h1 h2 h3 h4 => iSameC_yes z y p1 p2 w h1 h2 hp1 hp2 h3 h4)
      have CJ1 := keep (fun w => zConj p1 p2 w)
      have CJ2 := keep (fun w => zConj p1 (Op.negFloat .f32 p2) w)
      rw [neg32_twice] at CJ2
      have SC2 := keep (fun w => iSameC_yes p1 p2 p1 p2 w hp1 hp2 hp1 hp2 rfl rfl)
      have FC := keep (fun w => IsFiniteC p1 p2 w)
      have F1 := keep (fun w => sIsFinite_ok p1 w)
      have F2 := keep (fun w => sIsFinite_ok p2 w)
      unfold finC at FC
      rw [World.drewN_drewN] at BS
      clear hb B7 HO7 HR7 HO8 HR8 BO FB hp1 hp2 fd1 fd2
      generalize Op.negFloat .f32 p2 = np at *
      go_wp2_with fail
      refine BS.out.mono ?_
      rintro e w9 ⟨rfl, m9, hw9⟩
      have B9 := keep (show Below w.heap.size w w9 by rw [hw9]; exact Below.drewN_of (Below.drewN_of B8.out _) _)
      clear hw9 BS
      go_wp2_with fail
      refine (S1.out _).mono ?_
      rintro e w' ⟨rfl, hw⟩
      have hw := hw.symm
      subst hw
      go_wp2_with fail
      refine (NB.out _).mono ?_
      rintro e w10 ⟨z, y, m10, rfl, ⟨hz1, hz2⟩, ⟨hz3, hz4⟩, hw10⟩
      have B10 := keep (show Below w.heap.size w w10 by rw [hw10]; exact Below.drewN_of B9.out _)
      have SZ := keep (fun w => SB.out z y w hz1 hz2 hz3 hz4)
      clear hw10 hz1 hz2 hz3 hz4 B9 NB SB
      go_wp2_with fail
      refine (SZ.out _).mono ?_
      rintro e w' ⟨rfl, hw⟩
      have hw := hw.symm
      subst hw
      go_wp2_with fail
      refine (CJ1.out _).mono ?_
      rintro e w' ⟨rfl, hw⟩
      have hw := hw.symm
      subst hw
      go_wp2_with fail
      refine (CJ2.out _).mono ?_
      rintro e w' ⟨rfl, hw⟩
      have hw := hw.symm
      subst hw
      go_wp2_with fail
      refine (SC2.out _).mono ?_
      rintro e w' ⟨rfl, hw⟩
      have hw := hw.symm
      subst hw
      go_wp2_with fail
      refine (FC.out _).mono ?_
      rintro e w11 ⟨rfl, m11, hw11⟩
      have B11 := keep (show Below w.heap.size w w11 by rw [hw11]; exact Below.drewN_of B10.out _)
      clear hw11 B10
      go_wp2_with fail
      refine (F1.out _).mono ?_
      rintro e w12 ⟨rfl, m12, hw12⟩
      have B12 := keep (show Below w.heap.size w w12 by rw [hw12]; exact Below.drewN_of B11.out _)
      clear hw12 B11
      cases hf1 : fin .f32 p1
      · go_wp2_with fail
        go_ret
        exact ⟨rfl, B12.out⟩
      · go_wp2_with fail
        refine (F2.out _).mono ?_
        rintro e w13 ⟨rfl, m13, hw13⟩
        have B13 := keep (show Below w.heap.size w w13 by rw [hw13]; exact Below.drewN_of B12.out _)
        clear hw13 B12
        go_wp2_with fail
        go_ret
        exact ⟨by simp, B13.out⟩
    · have HQQ := keep HQ
      clear BK HQ
      rcases hz with hz | ⟨hz, hz2⟩
      all_goals
        go_wp2_with fail
        refine (HQQ.out _).mono ?_
        rintro e w' ⟨rfl, hw⟩
        have hw := hw.symm
        subst hw
        go_wp2_with fail
        refine (SC.out _).mono ?_
        rintro e w' ⟨rfl, hw⟩
        have hw := hw.symm
        subst hw
        go_wp2_with fail
        refine (zb10At a1 n1 c1 0 9 _ (yaft HB1.out B2.out) (by omega) (by omega) (by omega)).mono ?_
        rintro e w' ⟨⟨r, hr, rfl⟩, hw⟩
        have hw := hw.symm
        subst hw
        go_wp2_with fail
        refine (B10Any_ok a2 n2 c2 r _ (yaft HB2.out B2.out) (by omega)).mono ?_
        rintro e w4 ⟨xs, A, cp, hxl, hx32, rfl, ho, hb⟩
        obtain rfl := hxl
        have B4 := keep (B2.out.trans (hb.mono B2.out.size))
        have HO := keep ho
        have HX := keep hx32
        clear hb ho hx32
        go_wp2_with fail
        refine (ComplexText_ok w2.heap.size xs.length cp A xs w4 HO.out HX.out (by omega) rfl (HTZ.out.below B4.out (Nat.le_refl _))).mono ?_
        rintro e w5 ⟨rfl, hb⟩
        have B5 := keep (B4.out.trans (hb.mono B4.out.size))
        have HO5 := keep (show Prs w5 w2.heap.size (.slice A xs.length cp) xs from owns_below HO.out hb)
        have GT := keep (text_pairs xs (by omega) HX.out)
        have TL := textL_size 16 (xs.map ctx) (fun p hp => by
          obtain ⟨b, hb, rfl⟩ := List.mem_map.1 hp
          show (hex8 (cb b.1) ++ hex8 (cb b.2)).length = 16
          rw [List.length_append, hex8_len _ (cb_lt (HX.out b hb).1), hex8_len _ (cb_lt (HX.out b hb).2)]) (by rw [List.length_map]; omega) (by omega)
        clear hb HO B4
        generalize textL (xs.map ctx) = tl at *
        go_wp2_with fail
        refine (ReadComplex_any tl w5 (by omega) (HMX.out.below B5.out (Nat.le_refl _) h0) (HER.out.below B5.out (Nat.le_refl _)) (HTZ.out.below B5.out (Nat.le_refl _))).mono ?_
        rintro e w6 ⟨hg, hb⟩
        have B6 := keep (B5.out.trans (hb.mono B5.out.size))
        have HO6 := keep (show Prs w6 w2.heap.size (.slice A xs.length cp) xs from owns_below HO5.out hb)
        obtain ⟨A2, cp2, he, HR6⟩ : ∃ (A2 : Option Addr) (cp2 : Nat), e = .returned (.tuple #[.slice A2 xs.length cp2, .bool true]) ∧ Kept (Prs w6 w5.heap.size (.slice A2 xs.length cp2) (xs.map cb2)) := by
          rcases hg with ⟨gn, _⟩ | ⟨cs, A2, c2, gs, he, ho⟩
          · rw [GT.out] at gn; cases gn
          · rw [GT.out] at gs
            injection gs with gs
            subst gs
            have e1 : (xs.map cb2).length = xs.length := List.length_map _
            refine ⟨A2, c2, by rw [he, e1], keep ?_⟩
            show w6.ownsRow _ _ 1 (.slice A2 xs.length c2) (xs.map cb2).length _
            have ho2 := ho
            rw [e1] at ho2 ⊢
            exact ho2
        subst he
        clear hg hb HO5 B5 GT TL
        go_wp2_with fail
        refine (B10Number_ok a1 n1 c1 w6 (yaft HB1.out B6.out)).mono ?_
        rintro e w7 ⟨x, hx, rfl, hb⟩
        have B7 := keep (B6.out.trans (hb.mono B6.out.size))
        have HO7 := keep (show Prs w7 w2.heap.size (.slice A xs.length cp) xs from owns_below HO6.out hb)
        have HR7 := keep (show Prs w7 w5.heap.size (.slice A2 xs.length cp2) (xs.map cb2) from owns_below HR6.out hb)
        have BO := keep (fun w => BitsOf_any x w hx)
        have FB := keep (fun w => FromBits_ok (cb x) w (cb_lt hx))
        have S1 := keep (show ∀ (w : World), Calls Tryz.prog 10 #[.float .f32 (cb x), .float .f32 x] w fun e w' => e = .returned (.bool true) ∧ w' = w from fun w => by
          have h := SameNumber_ok (cb x) x w (cb_lt hx) hx
          rw [cb_cb, beq_self_eq_true] at h
          exact h)
        clear hb B6 HO6 HR6 hx
        generalize cb x = cx at *
        go_wp2_with fail
        refine (BO.out _).mono ?_
        rintro e w' ⟨rfl, hw⟩
        have hw := hw.symm
        subst hw
        go_wp2_with fail
        refine (FB.out _).mono ?_
        rintro e w' ⟨rfl, hw⟩
        have hw := hw.symm
        subst hw
        go_wp2_with fail
        refine (B10Complex_ok a1 n1 c1 w7 (yaft HB1.out B7.out)).mono ?_
        rintro e w8 ⟨⟨p1, p2⟩, ⟨hp1, hp2⟩, rfl, hb⟩
        have B8 := keep (B7.out.trans (hb.mono B7.out.size))
        have HO8 := keep (show Prs w8 w2.heap.size (.slice A xs.length cp) xs from owns_below HO7.out hb)
        have HR8 := keep (show Prs w8 w5.heap.size (.slice A2 xs.length cp2) (xs.map cb2) from owns_below HR7.out hb)
        obtain ⟨d1, m1, hd1, fd1, _⟩ := run_widen_lt w8 p1
        obtain ⟨d2, m2, hd2, fd2, _⟩ := run_widen_lt (w8.drewN m1) p2
        have NB := keep (fun w => NarrowComplex_back p1 p2 d1 d2 w hp1 hp2 fd1 fd2)
        have BS := keep (b10Same_yes w5.heap.size w2.heap.size xs.length cp2 cp A2 A xs ((w8.drewN m1).drewN m2) HR8.out HO8.out HX.out rfl (by omega))
        have HP := keep (And.intro hp1 hp2)
        have SB := keep (fun z y w h1 h2 h3 h4 => iSameC_yes z y p1 p2 w h1 h2 hp1 hp2 h3 h4)
        have CJ1 := keep (fun w => zConj p1 p2 w)
        have CJ2 := keep (fun w => zConj p1 (Op.negFloat .f32 p2) w)
        rw [neg32_twice] at CJ2
        have SC2 := keep (fun w => iSameC_yes p1 p2 p1 p2 w hp1 hp2 hp1 hp2 rfl rfl)
        have FC := keep (fun w => IsFiniteC p1 p2 w)
        have F1 := keep (fun w => sIsFinite_ok p1 w)
        have F2 := keep (fun w => sIsFinite_ok p2 w)
        unfold finC at FC
        rw [World.drewN_drewN] at BS
        clear hb B7 HO7 HR7 HO8 HR8 BO FB hp1 hp2 fd1 fd2
        generalize Op.negFloat .f32 p2 = np at *
        go_wp2_with fail
        refine BS.out.mono ?_
        rintro e w9 ⟨rfl, m9, hw9⟩
        have B9 := keep (show Below w.heap.size w w9 by rw [hw9]; exact Below.drewN_of (Below.drewN_of B8.out _) _)
        clear hw9 BS
        go_wp2_with fail
        refine (S1.out _).mono ?_
        rintro e w' ⟨rfl, hw⟩
        have hw := hw.symm
        subst hw
        go_wp2_with fail
        refine (NB.out _).mono ?_
        rintro e w10 ⟨z, y, m10, rfl, ⟨hz1, hz2⟩, ⟨hz3, hz4⟩, hw10⟩
        have B10 := keep (show Below w.heap.size w w10 by rw [hw10]; exact Below.drewN_of B9.out _)
        have SZ := keep (fun w => SB.out z y w hz1 hz2 hz3 hz4)
        clear hw10 hz1 hz2 hz3 hz4 B9 NB SB
        go_wp2_with fail
        refine (SZ.out _).mono ?_
        rintro e w' ⟨rfl, hw⟩
        have hw := hw.symm
        subst hw
        go_wp2_with fail
        refine (CJ1.out _).mono ?_
        rintro e w' ⟨rfl, hw⟩
        have hw := hw.symm
        subst hw
        go_wp2_with fail
        refine (CJ2.out _).mono ?_
        rintro e w' ⟨rfl, hw⟩
        have hw := hw.symm
        subst hw
        go_wp2_with fail
        refine (SC2.out _).mono ?_
        rintro e w' ⟨rfl, hw⟩
        have hw := hw.symm
        subst hw
        go_wp2_with fail
        refine (FC.out _).mono ?_
        rintro e w11 ⟨rfl, m11, hw11⟩
        have B11 := keep (show Below w.heap.size w w11 by rw [hw11]; exact Below.drewN_of B10.out _)
        clear hw11 B10
        go_wp2_with fail
        refine (F1.out _).mono ?_
        rintro e w12 ⟨rfl, m12, hw12⟩
        have B12 := keep (show Below w.heap.size w w12 by rw [hw12]; exact Below.drewN_of B11.out _)
        clear hw12 B11
        cases hf1 : fin .f32 p1
        · go_wp2_with fail
          go_ret
          exact ⟨rfl, B12.out⟩
        · go_wp2_with fail
          refine (F2.out _).mono ?_
          rintro e w13 ⟨rfl, m13, hw13⟩
          have B13 := keep (show Below w.heap.size w w13 by rw [hw13]; exact Below.drewN_of B12.out _)
          clear hw13 B12
          go_wp2_with fail
          go_ret
          exact ⟨by simp, B13.out⟩
end Go.Proofs.YtcmppipilihmkaaGreatDoor
