/- The law FnSources by its walk: parts of a particle have its charge and mass together and are merged again to what they were; new particles come where they are told to; speeds are spread by nothing and slowed as told; the coolest speed is least, and the spread is not less than 0. No condition but that the bytes can be read. -/
import Derived.Test.YtnmdgbnophclnaaQn
import Derived.Test.YtnmdgbnophclnaaMf
import Derived.Test.YtnmdgbnophclnaaGi
import Derived.Test.YtnmdgbnophclnaaId
namespace Go.Proofs.Ytnmdgbnophclnaa
open Go.RowKit Go.Sort Ieee
set_option linter.unusedSimpArgs false
set_option linter.unusedVariables false

theorem own_ptr {w : World} {B e size n c : Nat} {A : Option Addr} {xs : List Value} (h : w.ownsRow B e size (.slice A n c) n xs) (hn : 0 < n) : ∃ g, A = some ⟨g, 0, none⟩ := by
  rcases h.2 with ⟨_, h0⟩ | ⟨g, cap, cur, e, _⟩
  · omega
  · injection e with e1; exact ⟨g, e1⟩

theorem not_neg_order {G : Nat} (n : Nm single G) (v : 0 ≤ V single G) : FloatKind.f32.format.order G 0 = some .eq ∨ FloatKind.f32.format.order G 0 = some .gt := by
  have z : Nm single 0 := ⟨false, 0, -149, by decide +kernel⟩
  have vz : V single 0 = 0 := by decide +kernel
  rw [show FloatKind.f32.format.order G 0 = single.order G 0 from rfl, order_V n z, vz]
  by_cases h : V single G < 0
  · grind
  · rw [if_neg h]
    by_cases h2 : V single G = 0
    · rw [if_pos h2]; exact .inl rfl
    · rw [if_neg h2]; exact .inr rfl

set_option maxHeartbeats 16000000 in
set_option maxRecDepth 100000 in
theorem lawSources_any (a1 a2 : Option Addr) (n1 c1 n2 c2 : Nat) (w : World) (hb1 : Bytes w a1 n1) (hb2 : Bytes w a2 n2) :
    Calls Try.prog 5 #[.slice a1 n1 c1, .slice a2 n2 c2] w fun e w' => e = .returned (.bool true) ∧ Below w.heap.size w w' := by
  have LO := keep (fun w => r8Long_any a1 a2 n1 c1 n2 c2 w)
  cases hl : (decide (48 < n1) || decide (48 < n2))
  case true =>
    rw [hl] at LO
    clear hl hb1 hb2
    go_enter Try.func5, Try.ntmps5
    go_wp2_with fail
    refine (LO.out _).mono ?_
    rintro e w' ⟨rfl, rfl⟩
    go_wp2_with fail
    go_ret
    exact ⟨rfl, Below.refl _ _⟩
  case false =>
    rw [hl] at LO
    have RP := keep (R8Particle_ok a1 n1 c1 w hb1)
    have HB2 := keep hb2
    clear hl hb1 hb2
    go_enter Try.func5, Try.ntmps5
    go_wp2_with fail
    refine (LO.out _).mono ?_
    rintro e wz ⟨rfl, hwz⟩
    have hwz := hwz.symm
    subst hwz
    go_wp2_with fail
    refine RP.out.mono ?_
    rintro e w1 ⟨p, hp, rfl, hb⟩
    obtain ⟨⟨x0, x1⟩, ⟨y0, y1⟩, ⟨u0, u1⟩, ⟨v0, v1⟩, ⟨q0, q1⟩, ⟨m0, m1⟩⟩ := id hp
    have SP := keep (fun w => SplitParticle_ok p hp w)
    have MP := keep (fun w => MergeParticles_ok p hp w)
    have EM := keep (fun s h0 h1 w => EmitParticles_ok s h0 h1 p hp w)
    rw [show p.agg = p.pd.agg from rfl] at SP MP EM ⊢
    have A1 : Kept (∀ w, Calls Try.prog 36 #[.complex .f32 p.pd.a p.pd.b, .complex .f32 p.pd.a p.pd.b] w fun e w' => e = .returned (.float .f64 0) ∧ w' = w) := keep (fun w => Apart_self 3 p.x p.y (by omega) (by omega) (by omega) w)
    have A2 : Kept (∀ w, Calls Try.prog 36 #[.complex .f32 p.pd.c p.pd.d, .complex .f32 p.pd.c p.pd.d] w fun e w' => e = .returned (.float .f64 0) ∧ w' = w) := keep (fun w => Apart_self 3 p.u p.v (by omega) (by omega) (by omega) w)
    have EX : Kept (FloatKind.f32.format.order p.pd.a p.pd.a = some .eq) := keep (order_wd_self 3 p.x (by omega) (by omega))
    have EQ : Kept (FloatKind.f32.format.order p.pd.q p.pd.q = some .eq) := keep (order_wd_self 1 p.q (by omega) (by omega))
    have EN : Kept (FloatKind.f32.format.order p.pd.m p.pd.m = some .eq) := keep (order_wd_self 2 p.m (by omega) (by omega))
    have BD : Kept (∀ d, bornD p d = ⟨p.pd.a, wd single 16 (8192 * p.y + d), p.pd.c, p.pd.d, p.pd.q, p.pd.m⟩) := keep (fun d => rfl)
    have CB : Kept (floatToFloatBits .f32 p.pd.b .f64 = some (wd double 16 (8192 * p.y))) := keep (by
      have h := widen_wd 3 p.y (by omega) (by omega)
      have e := wd_up (f := double) fit_double binade_le_double (k := 3) (a := p.y) 13 (by decide) (by show p.y.natAbs < 9007199254740992; omega)
      rw [show p.y * ((2 ^ 13 : Nat) : Int) = 8192 * p.y by show p.y * 8192 = _; omega, show (3 + 13 : Nat) = 16 from rfl] at e
      rw [e]
      exact h)
    have CD := keep (fun d (hd : Off d) => widen_wd 16 (8192 * p.y + d) (by omega) (by have := hd.1; have := hd.2; omega))
    have GA := keep (fun d (hd : Off d) w => r8Gap_ok (8192 * p.y + d) (8192 * p.y) (by have := hd.1; have := hd.2; omega) (by omega) w)
    have GS := keep (fun d (hd : Off d) => gap_small (8192 * p.y + d - 8192 * p.y) (by have := hd.1; have := hd.2; omega))
    have PS := keep (show psCells [p.halfD, p.halfD] = [.complex .f32 p.halfD.a p.halfD.b, .complex .f32 p.halfD.c p.halfD.d, .float .f32 p.halfD.q, .float .f32 p.halfD.m, .complex .f32 p.halfD.a p.halfD.b, .complex .f32 p.halfD.c p.halfD.d, .float .f32 p.halfD.q, .float .f32 p.halfD.m] from rfl)
    rw [PS.out] at SP
    clear PS x0 x1 y0 y1 u0 u1 v0 v1 q0 q1 m0 m1 hp
    generalize p.pd = P at *
    generalize p.halfD = H at *
    generalize bornD p = bD at *
    generalize p.y = py at *
    clear p RP LO
    unfold PD.agg at *
    have P1 := keep (Has.made w1 52 #[.complex .f32 P.a P.b, .complex .f32 P.c P.d, .float .f32 P.q, .float .f32 P.m])
    have B1 := keep (hb.alloc hb.size (.cells #[.complex .f32 P.a P.b, .complex .f32 P.c P.d, .float .f32 P.q, .float .f32 P.m] 52))
    have cg := P1.out.cells
    clear hb
    go_wp2_with fail
    refine (SP.out _).mono ?_
    rintro e w2 ⟨g, hgl, rfl, hg, hb⟩
    have P2 := keep (P1.out.after hb)
    have B2 := keep (B1.out.trans (hb.mono B1.out.size))
    have G2 := keep hg
    have gl := hg.in_heap
    clear SP hb hg hgl P1 B1 cg
    have k0 : w2.cell? ⟨g, 0, none⟩ = _ := G2.out.cells 0
    have k1 : w2.cell? ⟨g, 1, none⟩ = _ := G2.out.cells 1
    have k2 : w2.cell? ⟨g, 2, none⟩ = _ := G2.out.cells 2
    have k3 : w2.cell? ⟨g, 3, none⟩ = _ := G2.out.cells 3
    have k4 : w2.cell? ⟨g, 4, none⟩ = _ := G2.out.cells 4
    have k5 : w2.cell? ⟨g, 5, none⟩ = _ := G2.out.cells 5
    have k6 : w2.cell? ⟨g, 6, none⟩ = _ := G2.out.cells 6
    have k7 : w2.cell? ⟨g, 7, none⟩ = _ := G2.out.cells 7
    simp at k0 k1 k2 k3 k4 k5 k6 k7
    go_wp2_with fail
    go_cut [10, 9] (fun s10 s9 wx => ∃ z : Nat, s10 = .bool true ∧ s9 = .pointer (some ⟨z, 0, none⟩) ∧ w2.heap.size ≤ z ∧ Has wx z 52 #[.complex .f32 P.a P.b, .complex .f32 P.c P.d, .float .f32 P.q, .float .f32 P.m] ∧ Below w2.heap.size w2 wx)
    case first =>
      clear A1 A2 EX EQ EN BD CB CD GA GS EM HB2
      as_aux_lemma =>
        have N0 : Kept (Has ((w2.alloc (.cells #[.complex .f32 0 0, .complex .f32 0 0, .float .f32 0, .float .f32 0] 52)).drew) w2.heap.size 52 #[.complex .f32 0 0, .complex .f32 0 0, .float .f32 0, .float .f32 0]) := keep ((Has.made w2 52 #[.complex .f32 0 0, .complex .f32 0 0, .float .f32 0, .float .f32 0]).draws 1)
        have M0 : Kept (Below w2.heap.size w2 ((w2.alloc (.cells #[.complex .f32 0 0, .complex .f32 0 0, .float .f32 0, .float .f32 0] 52)).drew)) := keep (((Below.refl w2.heap.size w2).alloc (Nat.le_refl _) (.cells #[.complex .f32 0 0, .complex .f32 0 0, .float .f32 0, .float .f32 0] 52)).drew)
        have M1 : Kept (Below w2.heap.size w2 w2.drew) := keep ((Below.refl w2.heap.size w2).drew)
        go_region_law (first
          | (go_simp
             go_at_call 30
             with_reducible refine (MP.out w2.drew).mono ?_
             rintro e w3 ⟨rfl, hb3⟩
             have B3 := keep (M1.out.trans (hb3.mono M1.out.size))
             have L4 := keep B3.out.size
             have N4 := keep (Has.made w3 52 #[.complex .f32 P.a P.b, .complex .f32 P.c P.d, .float .f32 P.q, .float .f32 P.m])
             have B4 := keep (B3.out.alloc B3.out.size (.cells #[.complex .f32 P.a P.b, .complex .f32 P.c P.d, .float .f32 P.q, .float .f32 P.m] 52))
             clear hb3 N0 M0 M1 B3)
          | (go_simp
             go_at_call 30
             with_reducible refine (MP.out ((w2.alloc (.cells #[.complex .f32 0 0, .complex .f32 0 0, .float .f32 0, .float .f32 0] 52)).drew)).mono ?_
             rintro e w3 ⟨rfl, hb3⟩
             have h3 := N0.out.after hb3
             have B3 := keep (M0.out.trans (hb3.mono M0.out.size))
             have z0 := h3.cells 0
             have z1 := h3.cells 1
             have z2 := h3.cells 2
             have z3 := h3.cells 3
             have f0 := h3.free 0
             have f1 := h3.free 1
             have f2 := h3.free 2
             have f3 := h3.free 3
             have l3 := h3.in_heap
             have N3 := keep h3
             have L4 := keep (Nat.le_refl w2.heap.size)
             have N4 : Kept (Has ((((w3.setCell ⟨w2.heap.size, 0, none⟩ (.complex .f32 P.a P.b)).setCell ⟨w2.heap.size, 1, none⟩ (.complex .f32 P.c P.d)).setCell ⟨w2.heap.size, 2, none⟩ (.float .f32 P.q)).setCell ⟨w2.heap.size, 3, none⟩ (.float .f32 P.m)) w2.heap.size 52 #[.complex .f32 P.a P.b, .complex .f32 P.c P.d, .float .f32 P.q, .float .f32 P.m]) := keep ((((N3.out.written 0 (.complex .f32 P.a P.b)).written 1 (.complex .f32 P.c P.d)).written 2 (.float .f32 P.q)).written 3 (.float .f32 P.m))
             have B4 := keep ((((B3.out.setCell (p := ⟨w2.heap.size, 0, none⟩) (Nat.le_refl _) (.complex .f32 P.a P.b)).setCell (p := ⟨w2.heap.size, 1, none⟩) (Nat.le_refl _) (.complex .f32 P.c P.d)).setCell (p := ⟨w2.heap.size, 2, none⟩) (Nat.le_refl _) (.float .f32 P.q)).setCell (p := ⟨w2.heap.size, 3, none⟩) (Nat.le_refl _) (.float .f32 P.m))
             clear hb3 h3 N0 M0 M1 N3 B3))
        all_goals
          clear k0 k1 k2 k3 k4 k5 k6 k7
          go_wp2_with fail
          go_meet
          exact ⟨_, rfl, rfl, L4.out, N4.out, B4.out⟩
    case rest =>
      obtain ⟨z, rfl, rfl, hz, hZ, hbz⟩ := hcut
      have P3 := keep (P2.out.after hbz)
      have Z3 := keep hZ
      have B3 := keep (B2.out.trans (hbz.mono B2.out.size))
      have SD := keep (r8At_seed a2 n2 c2 wc (HB2.out.aft B3.out))
      clear k0 k1 k2 k3 k4 k5 k6 k7 hz hZ hbz P2 B2 G2 gl MP
      go_wp2_with fail
      refine SD.out.mono ?_
      rintro e w4 ⟨⟨s, hs, rfl⟩, hw4⟩
      have hw4 := hw4.symm
      subst hw4
      have EM2 := keep (EM.out s hs.out.1 (by have := hs.out.2; omega))
      have SS := keep (fun B v gs w h hok hN => SpreadSpeeds_ok s hs.out.1 (by have := hs.out.2; omega) B v gs w h hok hN)
      have cg := P3.out.cells
      clear SD EM
      go_wp2_with fail
      refine (EM2.out _).mono ?_
      rintro e w5 ⟨ds, A, cA, t, hl4, hd, ht, rfl, how, hb⟩
      have P5 := keep (P3.out.after hb)
      have Z5 := keep (Z3.out.after hb)
      have B5 := keep (B3.out.trans (hb.mono B3.out.size))
      have OB5 := keep (own_base how (Nat.zero_le _))
      have HT := keep ht
      have HD := keep hd
      have HL := keep hl4
      obtain ⟨gB, rfl⟩ := own_ptr how (by omega)
      have LI := keep (R8List_ok a2 n2 c2 w5 (HB2.out.aft B5.out))
      clear cg how hb ht hd hl4 P3 Z3 B3 EM2
      go_wp2_with fail
      refine LI.out.mono ?_
      rintro e w6 ⟨gs, v, hN, hok, rfl, hown, hb⟩
      obtain ⟨AL, cL, rfl⟩ := own_slice hown
      have OK := keep hok
      have P6 := keep (P5.out.after hb)
      have Z6 := keep (Z5.out.after hb)
      have B6 := keep (B5.out.trans (hb.mono B5.out.size))
      have OB6 := keep (owns_below OB5.out hb)
      have OL6 := keep (own_base hown (Nat.zero_le _))
      clear hown hb hok P5 Z5 B5 OB5 LI
      go_wp2_with fail
      refine (SS.out _ _ gs _ OL6.out OK.out hN).mono ?_
      rintro e w7 ⟨AS, cS, t2, ht2, rfl, how, hb⟩
      have HT2 := keep ht2
      have P7 := keep (P6.out.after hb)
      have Z7 := keep (Z6.out.after hb)
      have B7 := keep (B6.out.trans (hb.mono B6.out.size))
      have OB7 := keep (owns_below OB6.out hb)
      have OL7 := keep (owns_below OL6.out hb)
      have OS7 := keep (own_base how (Nat.zero_le _))
      clear how hb ht2 P6 Z6 B6 OB6 OL6 SS
      go_wp2_with fail
      refine (DragSpeeds_ok _ _ gs _ OL7.out OK.out hN).mono ?_
      rintro e w8 ⟨AD, cD, rfl, how, hb⟩
      have P8 := keep (P7.out.after hb)
      have Z8 := keep (Z7.out.after hb)
      have B8 := keep (B7.out.trans (hb.mono B7.out.size))
      have OB8 := keep (owns_below OB7.out hb)
      have OL8 := keep (owns_below OL7.out hb)
      have OS8 := keep (owns_below OS7.out hb)
      have OD8 := keep (own_base how (Nat.zero_le _))
      clear how hb P7 Z7 B7 OB7 OL7 OS7
      have cp := P8.out.cells
      have cz := Z8.out.cells
      have q1 := EQ.out
      have q2 := EN.out
      have q3 := apart_small
      have h1 : ¬ t < 0 := by have := HT.out; omega
      have h2 : ¬ t2 < 0 := by have := HT2.out; omega
      go_wp2_with fail
      refine (A1.out _).mono ?_
      rintro e w9 ⟨rfl, hw9⟩
      have hw9 := hw9.symm
      subst hw9
      go_wp2_with fail
      refine (A2.out _).mono ?_
      rintro e w9 ⟨rfl, hw9⟩
      have hw9 := hw9.symm
      subst hw9
      go_wp2_with fail
      clear cz q1 q2 q3 h1 h2 A1 A2 EQ Z8 HT HT2 HB2
      go_loopw [21] (fun s wr => ∃ i : Nat, i ≤ 4 ∧ s = .int .i64 i ∧ Kept (Has wr w1.heap.size 52 #[.complex .f32 P.a P.b, .complex .f32 P.c P.d, .float .f32 P.q, .float .f32 P.m]) ∧ Kept (wr.ownsRow 0 52 4 (.slice (some ⟨gB, 0, none⟩) 4 cA) 4 (psCells (ds.map bD))) ∧ Kept (wr.ownsRow 0 52 4 (.slice AL gs.length cL) gs.length (psCells (gs.map GP.pd))) ∧ Kept (wr.ownsRow 0 52 4 (.slice AS gs.length cS) gs.length (psCells (gs.map GP.pd))) ∧ Kept (wr.ownsRow 0 52 4 (.slice AD gs.length cD) gs.length (psCells ((gs.map GP.pd).map PD.drag))) ∧ Kept (Below w.heap.size w wr)) (fun s _ => 4 - (intOf s).toNat)
      case atStart => exact ⟨0, by omega, rfl, P8, OB8, OL8, OS8, OD8, B8⟩
      case round =>
        clear cp P8 OB8 OL8 OS8 OD8 B8
        obtain ⟨i, hi, rfl, P8, OB8, OL8, OS8, OD8, B8⟩ := hrel
        have cp := P8.out.cells
        by_cases hlt : i < 4
        · have hiI : (i : Int) < 4 := by omega
          have hds : i < ds.length := by have := HL.out; omega
          have hD := HD.out ds[i] (List.getElem_mem hds)
          have cells : ∀ j, j < 4 → (psCells (ds.map bD))[i * 4 + j]? = (bD ds[i]).cells[j]? := fun j hj => by
            rw [psCells_at (ds.map bD) i (by simpa using hds) j hj, List.getElem_map]
          rw [BD.out] at cells
          have b0 : wr.cell? ⟨gB, i * 4, none⟩ = some (.complex .f32 P.a (wd single 16 (8192 * py + ds[i]))) := owns_cell OB8.out ((cells 0 (by omega)).trans rfl)
          have b3 : wr.cell? ⟨gB, i * 4 + 3, none⟩ = some (.float .f32 P.m) := owns_cell OB8.out ((cells 3 (by omega)).trans rfl)
          have cv1 := run_conv32 _ _ (CD.out _ hD)
          have cv2 := run_conv32 _ _ CB.out
          have GQ := keep (GA.out _ hD)
          have gsm := GS.out _ hD
          have ex := EX.out
          have en := EN.out
          clear cells hD
          generalize wd double 16 (((8192 * py + ds[i] - 8192 * py).natAbs : Nat) : Int) = W3 at *
          generalize wd double 16 (8192 * py + ds[i]) = W1 at *
          generalize wd double 16 (8192 * py) = W2 at *
          generalize wd single 16 (8192 * py + ds[i]) = w1' at *
          go_wp2_with fail
          go_quiet (first | (go_at_call 37; exact Calls.quiet_of_same (GQ.out _)))
          go_wp2_with fail
          go_roundw
          case rel => exact ⟨i + 1, by omega, by go_num, keep (P8.out.draws _), keep (owns_below OB8.out (Below.drewN _ _ _)), keep (owns_below OL8.out (Below.drewN _ _ _)), keep (owns_below OS8.out (Below.drewN _ _ _)), keep (owns_below OD8.out (Below.drewN _ _ _)), keep (Below.drewN_of B8.out _)⟩
          case measure => simp [intOf]; omega
        · obtain rfl : i = 4 := by omega
          have OL9 := OL8
          have OS9 := OS8
          have OD9 := OD8
          have B9 := B8
          clear cp P8 B8 OB8 OL8 OS8 OD8 GS GA CD CB BD EX EN HD HL
          go_wp2_with fail
          have CO := keep (fun B v w h => CoolestOf_ok B v gs w h OK.out hN)
          have SO := keep (fun B v w h => SpreadOf_ok B v gs w h OK.out hN)
          go_loopw [22] (fun s wr => ∃ i : Nat, i ≤ gs.length ∧ s = .int .i64 i ∧ Kept (wr.ownsRow 0 52 4 (.slice AL gs.length cL) gs.length (psCells (gs.map GP.pd))) ∧ Kept (wr.ownsRow 0 52 4 (.slice AS gs.length cS) gs.length (psCells (gs.map GP.pd))) ∧ Kept (wr.ownsRow 0 52 4 (.slice AD gs.length cD) gs.length (psCells ((gs.map GP.pd).map PD.drag))) ∧ Kept (Below w.heap.size w wr)) (fun s _ => gs.length - (intOf s).toNat)
          case atStart => exact ⟨0, Nat.zero_le _, rfl, OL9, OS9, OD9, B9⟩
          case round =>
            clear OL9 OS9 OD9 B9
            obtain ⟨i, hi, rfl, OL9, OS9, OD9, B9⟩ := hrel
            by_cases hlt : i < gs.length
            · have hiI : (i : Int) < (gs.length : Int) := by omega
              have hOK := OK.out gs[i] (List.getElem_mem hlt)
              obtain ⟨gS, rfl⟩ := own_ptr OS9.out (by omega)
              obtain ⟨gL, rfl⟩ := own_ptr OL9.out (by omega)
              obtain ⟨gD, rfl⟩ := own_ptr OD9.out (by omega)
              have cl : (psCells (gs.map GP.pd))[i * 4 + 1]? = gs[i].pd.cells[1]? := by rw [psCells_at (gs.map GP.pd) i (by simpa using hlt) 1 (by omega), List.getElem_map]
              have cd : (psCells ((gs.map GP.pd).map PD.drag))[i * 4 + 1]? = gs[i].pd.drag.cells[1]? := by rw [psCells_at _ i (by simpa using hlt) 1 (by omega), List.getElem_map, List.getElem_map]
              have b1 : World.cell? _ ⟨gS, i * 4 + 1, none⟩ = some (.complex .f32 (wd single 3 gs[i].u) (wd single 3 gs[i].v)) := owns_cell OS9.out (cl.trans rfl)
              have b2 : World.cell? _ ⟨gL, i * 4 + 1, none⟩ = some (.complex .f32 (wd single 3 gs[i].u) (wd single 3 gs[i].v)) := owns_cell OL9.out (cl.trans rfl)
              have b3 : World.cell? _ ⟨gD, i * 4 + 1, none⟩ = some (.complex .f32 (hf (wd single 3 gs[i].u)) (hf (wd single 3 gs[i].v))) := owns_cell OD9.out (cd.trans rfl)
              obtain ⟨_, _, ⟨u0, u1⟩, ⟨v0, v1⟩, _, _⟩ := hOK
              have hu := hf_of gs[i].u u0 u1
              have hv := hf_of gs[i].v v0 v1
              have SC := keep (fun w => ScaleComplex_any _ _ _ _ _ hu.1 hv.1 w)
              have o1 := order_wd_self 3 gs[i].u (by omega) (by omega)
              have o2 := order_wd_self 3 gs[i].v (by omega) (by omega)
              have o3 := hu.2.2.2
              have o4 := hv.2.2.2
              clear cl cd hu hv u0 u1 v0 v1 CO SO
              generalize hf (wd single 3 gs[i].u) = e1 at *
              generalize hf (wd single 3 gs[i].v) = e2 at *
              generalize wd single 3 gs[i].u = e3 at *
              generalize wd single 3 gs[i].v = e4 at *
              go_wp2_with fail
              go_quiet (first | (go_at_call 38; exact Calls.quiet_of_same (SC.out _)))
              go_wp2_with fail
              go_roundw
              case rel => exact ⟨i + 1, by omega, by go_num, keep (owns_below OL9.out (Below.drewN _ _ _)), keep (owns_below OS9.out (Below.drewN _ _ _)), keep (owns_below OD9.out (Below.drewN _ _ _)), keep (Below.drewN_of B9.out _)⟩
              case measure => simp [intOf]; omega
            · obtain rfl : i = gs.length := by omega
              have OLa := OL9
              have Ba := B9
              clear OL9 OS9 OD9 B9
              go_wp2_with fail
              refine (CO.out _ _ _ OLa.out).mono ?_
              rintro e w11 ⟨f, L, hfL, rfl, hb⟩
              have HF := keep hfL
              have OLb := keep (owns_below OLa.out hb)
              have Bb := keep (Ba.out.trans (hb.mono Ba.out.size))
              clear hb hfL OLa Ba CO
              go_wp2_with fail
              refine (SO.out _ _ _ OLb.out).mono ?_
              rintro e w12 ⟨G, nG, vG, rfl, hb⟩
              have OLc := keep (owns_below OLb.out hb)
              have Bc := keep (Bb.out.trans (hb.mono Bb.out.size))
              have GE := keep (not_neg_order nG vG)
              clear hb nG vG OLb Bb SO
              rcases Nat.eq_zero_or_pos gs.length with hz | hz
              · have hd0 : decide (0 < gs.length) = false := decide_eq_false (by omega)
                rw [hd0]
                have hzI : ¬ (0 : Int) < (gs.length : Int) := by omega
                have ge := GE.out
                generalize gs.length = n at *
                have HZ := keep hz
                clear hz hd0
                go_wp2_with fail
                refine wp_loop_rounds 1 ?_
                rw [rounds_succ]
                rcases ge with ge | ge
                all_goals
                  go_wp2_with fail
                  go_ret
                  exact ⟨rfl, Bc.out⟩
              · have hd0 : decide (0 < gs.length) = true := decide_eq_true (by omega)
                rw [hd0]
                have hzI : (0 : Int) < (gs.length : Int) := by omega
                obtain ⟨gL, rfl⟩ := own_ptr OLc.out hz
                obtain ⟨hf1, hf2⟩ := HF.out hz
                have NL := keep (hf2.not_lss OK.out)
                have FL := keep hf1
                clear hf1 hf2 HF hd0 hz
                go_wp2_with fail
                go_loopw [28] (fun s wr => ∃ i : Nat, i ≤ gs.length ∧ s = .int .i64 i ∧ wr = w12) (fun s _ => gs.length - (intOf s).toNat)
                case atStart => exact ⟨0, Nat.zero_le _, rfl, rfl⟩
                case round =>
                  obtain ⟨i, hi, rfl, hwr⟩ := hrel
                  have hwr := hwr.symm
                  subst hwr
                  by_cases hlt : i < gs.length
                  · have hiI : (i : Int) < (gs.length : Int) := by omega
                    have cl : (psCells (gs.map GP.pd))[i * 4 + 1]? = gs[i].pd.cells[1]? := by rw [psCells_at (gs.map GP.pd) i (by simpa using hlt) 1 (by omega), List.getElem_map]
                    have b1 : w12.cell? ⟨gL, i * 4 + 1, none⟩ = some (.complex .f32 (wd single 3 gs[i].u) (wd single 3 gs[i].v)) := owns_cell OLc.out (cl.trans rfl)
                    have LG := keep (fun w => LongOf_speed gs[i] (OK.out _ (List.getElem_mem hlt)) w)
                    have nl := NL.out gs[i] (List.getElem_mem hlt)
                    have g1 : ¬ (f : Int) < 0 := by omega
                    have g2 : (f : Int) < (gs.length : Int) := by have := FL.out; omega
                    clear cl
                    generalize lw (pwOf gs[i]) = l1 at *
                    generalize wd single 3 gs[i].u = e3 at *
                    generalize wd single 3 gs[i].v = e4 at *
                    go_wp2_with fail
                    refine (LG.out _).mono ?_
                    rintro e w13 ⟨rfl, hw13⟩
                    have hw13 := hw13.symm
                    subst hw13
                    go_wp2_with fail
                    go_roundw
                    case rel => exact ⟨i + 1, by omega, by go_num, by first | trivial | rfl⟩
                    case measure => simp [intOf]; omega
                  · obtain rfl : i = gs.length := by omega
                    have ge := GE.out
                    rcases ge with ge | ge
                    all_goals
                      go_wp2_with fail
                      go_ret
                      exact ⟨rfl, Bc.out⟩
end Go.Proofs.Ytnmdgbnophclnaa
