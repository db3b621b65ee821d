/- The law FnOrbits by its walk: without a field, an orbit has steps of the same length, nearly; particles keep the distance of their radius from the centre of their orbit, nearly; and turns tell how far a tick turns. No condition but that the bytes can be read. -/
import Derived.Test.YtegojadabfeokaaCc
import Derived.Test.YtegojadabfeokaaCi
import Derived.Test.YtegojadabfeokaaCj
import Derived.Test.YtegojadabfeokaaBk
namespace Go.Proofs.Ytegojadabfeokaa
open Go.RowKit Go.Sort Ieee
set_option linter.unusedSimpArgs false
set_option linter.unusedVariables false

theorem own1_cell {w : World} {B e g n cap : Nat} {xs : List Value} (h : w.ownsRow B e 1 (.slice (some ⟨g, 0, none⟩) n cap) n xs) {j : Nat} {u : Value} (hu : xs[j]? = some u) : w.cell? ⟨g, j, none⟩ = some u := by
  have h2 := h.cells (g := g) rfl j u hu
  rwa [Addr.add_lit, Nat.zero_add] at h2
theorem charge_cases (p : GP) (hp : p.ok) : V single (wd single 1 p.q) = 0 ∨ 1 / 2 ≤ V single (wd single 1 p.q) ∨ V single (wd single 1 p.q) ≤ -(1 / 2) := by
  obtain ⟨_, _, _, _, ⟨q0, q1⟩, _⟩ := hp
  obtain ⟨nq, vq⟩ := V_wd (f := single) fit_single 1 p.q (by decide) (by show p.q.natAbs < 16777216; omega)
  rw [(p2_of 0 (by omega)).1] at vq
  rw [vq]
  by_cases h0 : p.q = 0
  · left; rw [h0]; have e : ((0 : Int) : Rat) = 0 := rfl; rw [e]; grind
  · right
    rcases Int.lt_or_gt_of_ne h0 with h | h
    · have := Rat.intCast_le_intCast.2 (show p.q ≤ -1 by omega)
      have e : ((-1 : Int) : Rat) = -1 := rfl
      rw [e] at this
      right; grind
    · have := Rat.intCast_le_intCast.2 (show 1 ≤ p.q by omega)
      have e : ((1 : Int) : Rat) = 1 := rfl
      rw [e] at this
      left; grind
theorem place_bd (n : Int) (h0 : 0 ≤ n) (h1 : n ≤ 63) : Cl (V single (wd single 3 n)) 0 8 :=
  (wd8_bd n 64 (by omega) (by omega) (by omega)).mono (by have e : ((64 : Int) : Rat) = 64 := rfl; rw [e]; grind)

/-- Where something turns: all that is told; the spin is not nothing. -/
structure SpinA (x y u v q m mag P W w32 L R e f g h cx cy D D2 s5 r5 G z : Nat) : Prop where
  n : SpinN x y u v q m mag P W w32 L R e f g h cx cy D D2 s5 r5 G
  mz : floatBits .mul .f32 mag q = some z
  nz : ¬ (FloatKind.f32.format.order z 0 = some .eq)
  hP : floatBits .quo .f32 q m = some P
  nP : Nm single P
/-- Where nothing turns. -/
structure SpinZ (x y u v q m mag P W L e f p r z : Nat) : Prop where
  mW : floatBits .mul .f32 P mag = some W
  zW : W = 0 ∨ W = 2147483648
  l : LongW u v L
  nL : Nm single L
  me : MulW 0 1065353216 u v e f
  pe : ProdW e f W (Op.negFloat .f32 0) p r
  np : Nm double p
  nr : Nm double r
  mz : floatBits .mul .f32 mag q = some z
  nz : FloatKind.f32.format.order z 0 = some .eq
  hP : floatBits .quo .f32 q m = some P
  nP : Nm single P
theorem spinA_any {x y u v q m mag tick fx fy P h0 : Nat} (I : PIn x y u v q m mag tick fx fy) (H : PH q m tick P h0) (bx : Cl (V single x) 0 8) (bY : Cl (V single y) 0 8) (hq : 1 / 2 ≤ V single q ∨ V single q ≤ -(1 / 2)) (hμ : 1 / 8 ≤ V single mag ∨ V single mag ≤ -(1 / 8)) :
    ∃ W w32 L R e f g h cx cy D D2 s5 r5 G z, SpinA x y u v q m mag P W w32 L R e f g h cx cy D D2 s5 r5 G z := by
  obtain ⟨W, w32, L, R, e, f, g, h, cx, cy, D, D2, s5, r5, G, S⟩ := spin_any I H bx bY hq hμ
  have u1 : p2 1 = 2 := by decide +kernel
  have s1 : ulp single 1 = 1 / 8388608 := by decide +kernel
  obtain ⟨z, hz, nz, cz, _⟩ := mul_near good_single I.nmag I.P.hq 1 (by rw [u1]; exact (I.bmag.prod I.bq).mono (by grind)) (ex_single (by decide) (by decide))
  rw [s1] at cz
  refine ⟨W, w32, L, R, e, f, g, h, cx, cy, D, D2, s5, r5, G, z, S, hz, fun ho => ?_, H.pull, H.nP⟩
  have o := order_V nz nm_zero.1
  rw [show single.order z 0 = some .eq from ho, nm_zero.2] at o
  have hz0 : V single z = 0 := by grind
  rw [hz0] at cz
  unfold Cl at cz
  rcases hq with a | a <;> rcases hμ with b | b
  · have := Rat.mul_nonneg (a := V single mag - 1 / 8) (b := V single q - 1 / 2) (by grind) (by grind); grind
  · have := Rat.mul_nonneg (a := -V single mag - 1 / 8) (b := V single q - 1 / 2) (by grind) (by grind); grind
  · have := Rat.mul_nonneg (a := V single mag - 1 / 8) (b := -V single q - 1 / 2) (by grind) (by grind); grind
  · have := Rat.mul_nonneg (a := -V single mag - 1 / 8) (b := -V single q - 1 / 2) (by grind) (by grind); grind
theorem spinZ_any {x y u v q m mag tick fx fy P h0 : Nat} (I : PIn x y u v q m mag tick fx fy) (H : PH q m tick P h0) (hz : V single q = 0 ∨ V single mag = 0) : ∃ W L e f p r z, SpinZ x y u v q m mag P W L e f p r z := by
  have z0 := nm_zero
  have one := nm_one
  have hm0 : V single m ≠ 0 := by have := I.P.p; grind
  obtain ⟨W, mW, zW⟩ := mul_zeros H.nP I.nmag (by
    rcases hz with h | h
    · left
      obtain ⟨P', h1, h2⟩ := quo_zeros I.P.hq I.P.hm h hm0
      have e : some P' = some P := h1.symm.trans H.pull
      injection e with e
      subst e
      exact (zero_words h2).2.1
    · exact .inr h)
  obtain ⟨z, mz, zz⟩ := mul_zeros I.nmag I.P.hq (by rcases hz with h | h; exact .inr h; exact .inl h)
  obtain ⟨L, lw, len⟩ := long2 I.P.hu I.P.hv (I.bu.mono (by grind)) (I.bv.mono (by grind))
  have u2 : p2 2 = 4 := by decide +kernel
  have l2 : ulp double 2 = 1 / 2251799813685248 := by decide +kernel
  have s2 : ulp single 2 = 1 / 4194304 := by decide +kernel
  obtain ⟨e, f, me, ae, af⟩ := mul_cl (a := 0) (b := 1065353216) (A := 1) (C := 1) z0.1 one.1 I.P.hu I.P.hv (by rw [z0.2]; unfold Cl; constructor <;> grind) (by rw [one.2]; unfold Cl; constructor <;> grind) I.bu I.bv 2 (ex_double (by decide) (by decide)) (by rw [u2]; grind) (by rw [l2]; grind) (η := 1 / 562949953421312) (by rw [l2]; grind) 2 (ex_single (by decide) (by decide)) (by rw [u2]; grind) (e' := 1 / 4000000) (by rw [s2]; grind)
  have nz := neg32_V z0.1
  have zw := zero_words zW
  obtain ⟨p, r, pe, ap, ar⟩ := prod_near (A := 3) (C := 0) ae.nm af.nm zw.1 nz.1 (ae.abs.mono (by grind)) (af.abs.mono (by grind)) (by rw [zw.2.1]; exact Cl.refl _ (by grind)) (by rw [nz.2, z0.2]; unfold Cl; constructor <;> grind) 2 (ex_double (by decide) (by decide)) (by rw [u2]; grind) (by rw [l2]; grind) (η := 1) (by rw [l2]; grind)
  exact ⟨W, L, e, f, p, r, z, mW, zW, lw, len.nm, me, pe, ap.nm, ar.nm, mz, (zero_words zz).2.2.1, H.pull, H.nP⟩
theorem num_self {z : Nat} (n : Nm single z) : FloatKind.f32.format.order z z = some .eq := by
  have o := order_V n n
  rw [show FloatKind.f32.format.order z z = single.order z z from rfl, o, if_neg (by grind), if_pos rfl]

theorem bnegd (a : Nat) (w : World) : (Op.unary .neg (.float .f64 a)).run Try.prog w = .ok (.float .f64 (Op.negFloat .f64 a)) w := rfl
set_option maxHeartbeats 16000000 in
set_option maxRecDepth 100000 in
theorem lawOrbits_any (a1 a2 : Option Addr) (n1 c1 n2 c2 : Nat) (w : World) (hb1 : Bytes w a1 n1) (hb2 : Bytes w a2 n2) :
    Calls Try.prog 4 #[.slice a1 n1 c1, .slice a2 n2 c2] w fun e w' => e = .returned (.bool true) ∧ Below w.heap.size w w' := by
  have LO := keep (fun w => r8Long_any a1 a2 n1 c1 n2 c2 w)
  cases hl : (decide (48 < n1) || decide (48 < n2))
  case true =>
    rw [hl] at LO
    clear hl hb1 hb2
    go_enter Try.func4, Try.ntmps4
    go_wp2_with fail
    refine (LO.out _).mono ?_
    rintro e w' ⟨rfl, rfl⟩
    go_wp2_with fail
    go_ret
    exact ⟨rfl, Below.refl _ _⟩
  case false =>
    rw [hl] at LO
    have RP := keep (R8Particle_ok a1 n1 c1 w hb1)
    have HB2 := keep hb2
    clear hl hb1 hb2
    go_enter Try.func4, Try.ntmps4
    go_wp2_with fail
    refine (LO.out _).mono ?_
    rintro e wz ⟨rfl, hwz⟩
    have hwz := hwz.symm
    subst hwz
    go_wp2_with fail
    refine RP.out.mono ?_
    rintro e w1 ⟨p, hp, rfl, hb⟩
    have IN := keep (fun mg tk h1 h2 => pin_of p hp mg tk 0 0 h1 h2 ⟨by omega, by omega⟩ ⟨by omega, by omega⟩)
    have BX := keep (place_bd p.x hp.1.1 hp.1.2)
    have BY := keep (place_bd p.y hp.2.1.1 hp.2.1.2)
    have CH := keep (charge_cases p hp)
    unfold GP.agg
    generalize wd single 3 p.x = x at *
    generalize wd single 3 p.y = y at *
    generalize wd single 3 p.u = u at *
    generalize wd single 3 p.v = v at *
    generalize wd single 1 p.q = q at *
    generalize wd single 2 p.m = m at *
    have P1 := keep (Has.made w1 27 #[.complex .f32 x y, .complex .f32 u v, .float .f32 q, .float .f32 m])
    have B1 := keep (hb.alloc hb.size (.cells #[.complex .f32 x y, .complex .f32 u v, .float .f32 q, .float .f32 m] 27))
    have HB := keep (baft HB2.out B1.out)
    clear p hp RP LO hb HB2
    go_wp2_with fail
    generalize w1.alloc (.cells #[.complex .f32 x y, .complex .f32 u v, .float .f32 q, .float .f32 m] 27) = W1 at *
    refine (R8Number_ok a2 n2 c2 0 W1 HB.out (by omega)).mono ?_
    rintro e w' ⟨mg, hmg, rfl, hw⟩
    have hw := hw.symm
    subst hw
    go_wp2_with fail
    refine (R8Number_ok a2 n2 c2 1 _ HB.out (by omega)).mono ?_
    rintro e w' ⟨tk, htk, rfl, hw⟩
    have hw := hw.symm
    subst hw
    have I := keep (IN.out mg tk hmg htk)
    have MC := keep (mag_cases mg hmg)
    clear IN hmg htk HB
    generalize wd single 3 0 = zz at *
    generalize wd single 3 mg = mag at *
    generalize wd single 3 tk = tick at *
    obtain ⟨P, h0, H⟩ := ph_near I.out.P.hq I.out.P.hm I.out.ntick I.out.bq I.out.m0 I.out.m1 I.out.btick
    obtain ⟨tr, ti, L0, D0, TD, LG, A, B, U, W, T⟩ := otold_any I.out BX.out BY.out H
    obtain ⟨z, nz, hz⟩ := bAngle T.ntr T.nti T.tz
    have AN := keep hz
    have H := keep H
    clear hz
    obtain ⟨rfl, rfl, rfl, rfl⟩ : x = A 0 ∧ y = B 0 ∧ u = U 0 ∧ v = W 0 := ⟨T.a0.symm, T.b0.symm, T.u0.symm, T.w0.symm⟩
    have T := keep T
    have OB := keep (fun w => OrbitOf_ok A B U W I.out.P I.out.nmag I.out.ntick T.out.s w)
    have k := P1.out.cells
    go_wp2_with fail
    refine (OB.out _).mono ?_
    rintro e w3 ⟨g, c, rfl, hO, hb⟩
    have P3 := keep (P1.out.after hb)
    have B3 := keep (B1.out.trans (hb.mono B1.out.size))
    have CE := keep (fun (j : Nat) (hj : j < 6) => own1_cell hO (cList_at A B 6 j hj))
    clear P1 B1 hb k hO OB
    have hc := P3.out.cells
    have CL := keep (fun w => bLong T.out.l w)
    have f1 := zconv32 _ _ T.out.w
    have f2 := zconv32 _ _ T.out.td
    have f3 := bnegd TD
    have f4 := brun_max TD (Op.negFloat .f64 TD) T.out.nT T.out.nN
    have f5 := zrun T.out.lg
    go_wp2_with (go_at_call 13; refine (CL.out _).mono ?_; rintro e w' ⟨rfl, hw⟩; have hw := hw.symm; subst hw)
    clear CL f1 f2 f3 f4 f5
    go_loopw [12, 11] (fun s t wr => ∃ k : Nat, k ≤ 6 ∧ s = .int .i64 k ∧ t = .complex .f32 (A k) (B k) ∧ wr = w3) (fun s _ _ => 6 - (intOf s).toNat)
    case atStart => exact ⟨0, by omega, rfl, rfl, rfl⟩
    case round =>
      obtain ⟨k, hk, rfl, rfl, rfl⟩ := hrel
      by_cases hlt : k < 6
      · have hi : (k : Int) < 6 := by omega
        obtain ⟨D, G, hA, hG, o⟩ := T.out.far k hlt
        have CA := keep (fun w => bApart hA w)
        have CG := keep (fun w => bGap hG w)
        have ce := CE.out k hlt
        clear hA hG hc
        have EA := keep (show A (k + 1) = A (k + 1) from rfl)
        go_wp2_with (first
        | (go_at_call 14; refine (CA.out _).mono ?_; rintro e w' ⟨rfl, hw⟩; have hw := hw.symm; subst hw)
        | (go_at_call 12; refine (CG.out _).mono ?_; rintro e w' ⟨rfl, hw⟩; have hw := hw.symm; subst hw))
        go_roundw
        case rel => exact ⟨k + 1, by omega, by go_num, rfl, trivial⟩
        case measure => simp [intOf]; omega
      · obtain rfl : k = 6 := by omega
        go_wp2_with fail
        rcases (show (V single q = 0 ∨ V single mag = 0) ∨ ((1 / 2 ≤ V single q ∨ V single q ≤ -(1 / 2)) ∧ (1 / 8 ≤ V single mag ∨ V single mag ≤ -(1 / 8))) from by
          rcases CH.out with h | h
          · exact .inl (.inl h)
          · rcases MC.out with h2 | h2
            · exact .inl (.inr (by rw [h2]; exact nm_zero.2))
            · exact .inr ⟨h, h2.1⟩) with hz | ⟨hq, hμ⟩
        · obtain ⟨Ws, L, e, f, p, r, zs, Z⟩ := spinZ_any I.out H.out hz
          have zw := zero_words Z.zW
          have Z := keep Z
          clear hz
          refine (bRadius_no I.out.P I.out.nmag Z.out.hP Z.out.nP Z.out.mW zw.1 zw.2.2.2.1 (by decide +kernel) Z.out.l Z.out.nL _).mono ?_
          rintro e1 w4 ⟨rfl, hb⟩
          have P4 := keep (P3.out.after hb)
          have B4 := keep (B3.out.trans (hb.mono B3.out.size))
          clear P3 B3 hb hc
          have hc := P4.out.cells
          go_wp2_with fail
          refine (bCentre_no I.out.P I.out.nmag Z.out.hP Z.out.mW Z.out.me Z.out.pe Z.out.np Z.out.nr zw.2.2.2.2 _).mono ?_
          rintro e1 w5 ⟨rfl, hb⟩
          have PQ := keep (P4.out.after hb)
          have BQ := keep (B4.out.trans (hb.mono B4.out.size))
          clear P4 B4 hb hc
          have hc := PQ.out.cells
          have f6 := zrun Z.out.mz
          have o6 := Z.out.nz
          clear zw
          go_wp2_with fail
          refine (bTurns I.out.P I.out.nmag I.out.ntick T.out.t T.out.ntr T.out.nti (fun w => (AN.out w).mono fun e w' h => ⟨h.1, h.2.1⟩) nz _).mono ?_
          rintro e wa ⟨rfl, hb⟩
          have PA := keep (PQ.out.after hb)
          have BA := keep (BQ.out.trans (hb.mono BQ.out.size))
          clear PQ BQ hb hc
          have hc := PA.out.cells
          go_wp2_with fail
          refine (bTurnOf I.out.P I.out.nmag I.out.ntick T.out.t T.out.ntr T.out.nti _).mono ?_
          rintro e wb ⟨rfl, hb⟩
          have BB := keep (BA.out.trans (hb.mono BA.out.size))
          clear PA BA hb hc
          have NZ := keep nz
          clear nz
          go_wp2_with fail
          refine (AN.out _).mono ?_
          rintro e wc ⟨rfl, hb, hl⟩
          have BC := keep (BB.out.trans (hb.mono BB.out.size))
          have SN := keep (fun w => SameNumber_num z ⟨by omega, num_self NZ.out⟩ w)
          clear BB hb hl
          go_wp2_with fail
          refine (SN.out _).mono ?_
          rintro e w' ⟨rfl, hw⟩
          have hw := hw.symm
          subst hw
          go_wp2_with fail
          go_ret
          exact ⟨rfl, BC.out⟩
        · obtain ⟨Ws, w32, L, R, e, f, g1, g2, cx, cy, D, D2, s5, r5, G, zs, Z⟩ := spinA_any I.out H.out BX.out BY.out hq hμ
          have Z := keep Z
          clear hq hμ
          refine (bRadius I.out.P I.out.nmag Z.out.hP Z.out.nP Z.out.n.mW Z.out.n.nW Z.out.n.ab Z.out.n.l Z.out.n.r Z.out.n.nR _).mono ?_
          rintro e1 w4 ⟨rfl, hb⟩
          have P4 := keep (P3.out.after hb)
          have B4 := keep (B3.out.trans (hb.mono B3.out.size))
          clear P3 B3 hb hc
          have hc := P4.out.cells
          go_wp2_with fail
          refine (bCentre I.out.P I.out.nmag Z.out.hP Z.out.n.mW Z.out.n.me Z.out.n.qw Z.out.n.sx Z.out.n.sy Z.out.n.ncx Z.out.n.ncy _).mono ?_
          rintro e1 w5 ⟨rfl, hb⟩
          have PQ := keep (P4.out.after hb)
          have BQ := keep (B4.out.trans (hb.mono B4.out.size))
          clear P4 B4 hb hc
          have hc := PQ.out.cells
          have f6 := zrun Z.out.mz
          have o6 := Z.out.nz
          have o7 : (FloatKind.f32.format.order zs 0 == some .eq) = false := by simpa using o6
          have o9 : (FloatKind.f32.format.order zs 0 != some .eq) = true := by simpa using o6
          have CA := keep (fun w => bApart Z.out.n.ap w)
          have CG := keep (fun w => bGap Z.out.n.gp w)
          have f7 := zconv32 _ _ Z.out.n.w2
          have f8 := zrun Z.out.n.a5
          have f9 := zrun Z.out.n.m5
          have o8 := Z.out.n.o
          go_wp2_with (first
            | (go_at_call 14; refine (CA.out _).mono ?_; rintro e w' ⟨rfl, hw⟩; have hw := hw.symm; subst hw)
            | (go_at_call 12; refine (CG.out _).mono ?_; rintro e w' ⟨rfl, hw⟩; have hw := hw.symm; subst hw))
          refine (bTurns I.out.P I.out.nmag I.out.ntick T.out.t T.out.ntr T.out.nti (fun w => (AN.out w).mono fun e w' h => ⟨h.1, h.2.1⟩) nz _).mono ?_
          rintro e wa ⟨rfl, hb⟩
          have PA := keep (PQ.out.after hb)
          have BA := keep (BQ.out.trans (hb.mono BQ.out.size))
          clear PQ BQ hb hc
          have hc := PA.out.cells
          go_wp2_with fail
          refine (bTurnOf I.out.P I.out.nmag I.out.ntick T.out.t T.out.ntr T.out.nti _).mono ?_
          rintro e wb ⟨rfl, hb⟩
          have BB := keep (BA.out.trans (hb.mono BA.out.size))
          clear PA BA hb hc
          have NZ := keep nz
          clear nz
          go_wp2_with fail
          refine (AN.out _).mono ?_
          rintro e wc ⟨rfl, hb, hl⟩
          have BC := keep (BB.out.trans (hb.mono BB.out.size))
          have SN := keep (fun w => SameNumber_num z ⟨by omega, num_self NZ.out⟩ w)
          clear BB hb hl
          go_wp2_with fail
          refine (SN.out _).mono ?_
          rintro e w' ⟨rfl, hw⟩
          have hw := hw.symm
          subst hw
          go_wp2_with fail
          go_ret
          exact ⟨rfl, BC.out⟩
end Go.Proofs.Ytegojadabfeokaa
