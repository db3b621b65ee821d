/- Contract: emitted particles. -/
import Derived.Test.YtnmdgbnophclnaaQd
import Derived.Test.YtnmdgbnophclnaaGh
import Derived.Deep.RegionLaw
namespace Go.Proofs.Ytnmdgbnophclnaa
open Go.RowKit Go.Sort Ieee
set_option linter.unusedSimpArgs false

theorem half_word1 : (1056964608 : Nat) = wd single 1 1 := by decide +kernel
theorem half_word15 : (1056964608 : Nat) = wd single 15 16384 := by decide +kernel
theorem emit_sum (y n : Int) (y0 : 0 ≤ y) (y1 : y ≤ 63) (n0 : 0 ≤ n) (n1 : n ≤ 32767) : floatBits .sub .f32 (wd single 15 n) 1056964608 = some (wd single 15 (n - 16384)) ∧ floatBits .mul .f32 1056964608 (wd single 15 (n - 16384)) = some (wd single 16 (n - 16384)) ∧ floatBits .add .f32 (wd single 3 y) (wd single 16 (n - 16384)) = some (wd single 16 (8192 * y + (n - 16384))) := by
  refine ⟨?_, ?_, ?_⟩
  · rw [half_word15]
    exact fsub (by omega) (by omega) (by omega) (by omega)
  · have h := mul_wd_pos (f := single) fit_single binade_le_single (k := 15) (l := 1) (a := n - 16384) (b := 1) (by decide) (by decide) (by decide) (by decide) (by show (n - 16384).natAbs < 16777216; omega) (by decide) (by show ((n - 16384) * 1).natAbs < 16777216; omega)
    rw [Int.mul_one, ← half_word1, mul_comm_bits] at h
    exact h
  · have e := wd_up (f := single) fit_single binade_le_single (k := 3) (a := y) 13 (by decide) (by show y.natAbs < 16777216; omega)
    have h := fadd (k := 16) (a := 8192 * y) (b := n - 16384) (by omega) (by omega) (by omega) (by omega)
    rw [show 8192 * y = y * ((2 ^ 13 : Nat) : Int) by show 8192 * y = y * 8192; omega] at h
    rw [show (3 + 13 : Nat) = 16 from rfl] at e
    rw [e] at h
    rw [show 8192 * y = y * ((2 ^ 13 : Nat) : Int) by show 8192 * y = y * 8192; omega]
    exact h

def bornD (p : GP) (d : Int) : PD := ⟨wd single 3 p.x, wd single 16 (8192 * p.y + d), wd single 3 p.u, wd single 3 p.v, wd single 1 p.q, wd single 2 p.m⟩
def Off (d : Int) : Prop := -16384 ≤ d ∧ d ≤ 16383
theorem bornD_ok {p : GP} (h : p.ok) {d : Int} (hd : Off d) : (bornD p d).ok = true := by
  obtain ⟨h1, h2, h3, h4, h5, h6⟩ := h
  obtain ⟨d0, d1⟩ := hd
  unfold PD.ok validP finC bornD
  simp only
  rw [fin_wd 3 p.x (by omega) (by omega), fin_wd 16 (8192 * p.y + d) (by omega) (by omega), fin_wd 3 p.u (by omega) (by omega), fin_wd 3 p.v (by omega) (by omega), fin_wd 1 p.q (by omega) (by omega), fin_wd 2 p.m (by omega) (by omega), gtr_mass p.m (by omega) (by omega)]
  rfl
theorem born_all {p : GP} (h : p.ok) {ds : List Int} (hd : ∀ d ∈ ds, Off d) : (ds.map (bornD p)).all PD.ok = true := by
  rw [List.all_map]
  exact List.all_eq_true.2 fun d hm => bornD_ok h (hd d hm)

theorem use_seed (g : Nat) (w : World) (h : SeedAt w g) : Calls Try.prog 79 #[.pointer (some ⟨g, 0, none⟩)] w fun e w' => ∃ n : Int, Kept (0 ≤ n ∧ n ≤ 32767) ∧ e = .returned (.float .f32 (wd single 15 n)) ∧ SeedAt w' g ∧ w.grownBy w' (some g) := by
  obtain ⟨s, h0, h1, hh⟩ := h
  refine (use_ok s h0 h1 g w hh).mono ?_
  rintro e w' ⟨rfl, rfl⟩
  have n0 := nx_bounds s
  have u0 := un_bounds (nx s) n0.1 n0.2
  exact ⟨un (nx s), keep u0, rfl, ⟨nx s, n0.1, n0.2, hh.written 0 (.int .i64 (nx s))⟩, gb_row w g 0 (.int .i64 (nx s))⟩
theorem Has.under {w w' : World} {g B : Nat} {t : TypeId} {cs : Array Value} (h : Has w g t cs) (hb : Below B w w') (hg : g < B) : Has w' g t cs := (hb.block g hg).trans h
theorem SeedAt.below {w w' : World} {g : Nat} (h : SeedAt w g) (hb : Below w.heap.size w w') : SeedAt w' g := by
  obtain ⟨s, h0, h1, hh⟩ := h
  exact ⟨s, h0, h1, hh.after hb⟩
theorem SeedAt.byG {w w' : World} {g : Nat} {r : Option Nat} (h : SeedAt w g) (hg : w.grownBy w' r) (hne : r ≠ some g) : SeedAt w' g := by
  obtain ⟨s, h0, h1, hh⟩ := h
  exact ⟨s, h0, h1, hh.byG hg hne⟩

set_option maxHeartbeats 8000000 in
set_option maxRecDepth 20000 in
theorem EmitParticles_ok (s : Int) (h0 : 0 ≤ s) (h1 : s ≤ 2147483647) (p : GP) (hp : p.ok) (w : World) :
    Calls Try.prog 32 #[.int .i64 s, .int .i64 4, p.agg, .float .f32 1056964608] w fun e w' => ∃ (ds : List Int) (A : Option Addr) (c : Nat) (t : Int), ds.length = 4 ∧ (∀ d ∈ ds, Off d) ∧ 0 ≤ t ∧ e = .returned (.tuple #[.slice A 4 c, .int .i64 t, .bool true]) ∧ w'.ownsRow w.heap.size 52 4 (.slice A 4 c) 4 (psCells (ds.map (bornD p))) ∧ Below w.heap.size w w' := by
  have IS := keep (fun w => isSeed_ok s h0 h1 w)
  have WI := keep (fun w => within_any 4 0 64 w)
  have VP := keep (fun w => GP.valid hp w)
  have C := IsFinite32 1056964608
  rw [fin_half] at C
  have C := keep C
  have FN := keep (fun n (h : Kept (0 ≤ n ∧ n ≤ 32767)) => emit_sum p.y n hp.2.1.1 hp.2.1.2 h.out.1 h.out.2)
  have BA := keep (fun ds (hd : ∀ d ∈ ds, Off d) => born_all hp hd)
  have AQ := keep (fun ds (hd : ∀ d ∈ ds, Off d) (hl : ds.length = 4) B v w (h : World.ownsRow w B 52 4 v 4 (psCells (ds.map (bornD p)))) => AreParticles_ok B v (ds.map (bornD p)) w (by rw [List.length_map, hl]; exact h) (born_all hp hd) (by rw [List.length_map]; omega))
  have PE := keep (show p.agg = .agg #[.complex .f32 (wd single 3 p.x) (wd single 3 p.y), .complex .f32 (wd single 3 p.u) (wd single 3 p.v), .float .f32 (wd single 1 p.q), .float .f32 (wd single 2 p.m)] from rfl)
  have BC := keep (show ∀ d, (bornD p d).cells = [.complex .f32 (wd single 3 p.x) (wd single 16 (8192 * p.y + d)), .complex .f32 (wd single 3 p.u) (wd single 3 p.v), .float .f32 (wd single 1 p.q), .float .f32 (wd single 2 p.m)] from fun d => rfl)
  rw [PE.out] at VP
  rw [PE.out]
  clear PE
  generalize bornD p = bD at *
  generalize wd single 3 p.x = a at *
  generalize wd single 3 p.y = b at *
  generalize wd single 3 p.u = c at *
  generalize wd single 3 p.v = d at *
  generalize wd single 1 p.q = q at *
  generalize wd single 2 p.m = m at *
  generalize p.y = py at *
  clear hp p
  have S0 : Kept (SeedAt ((w.alloc (.cells #[.int .i64 s] 2)).alloc (.cells #[.complex .f32 a b, .complex .f32 c d, .float .f32 q, .float .f32 m] 52)) w.heap.size) := keep ⟨s, h0, h1, (Has.made w 2 #[.int .i64 s]).beside (.cells #[.complex .f32 a b, .complex .f32 c d, .float .f32 q, .float .f32 m] 52)⟩
  have P0 := keep (has_at (w.alloc (.cells #[.int .i64 s] 2)) 52 #[.complex .f32 a b, .complex .f32 c d, .float .f32 q, .float .f32 m] (w.heap.size + 1) (by simp))
  have B0 := keep (((Below.refl w.heap.size w).alloc (Nat.le_refl _) (.cells #[.int .i64 s] 2)).alloc (by simp) (.cells #[.complex .f32 a b, .complex .f32 c d, .float .f32 q, .float .f32 m] 52))
  go_enter Try.func32, Try.ntmps32
  go_wp2_with fail
  refine (IS.out _).mono ?_
  rintro e w1 ⟨rfl, rfl⟩
  go_wp2_with fail
  refine (WI.out _).mono ?_
  rintro e w2 ⟨rfl, rfl⟩
  have d1 : decide ((0 : Int) ≤ 4) = true := by decide
  have d2 : decide ((4 : Int) ≤ 64) = true := by decide
  have S1 := S0.out
  have P1 := P0.out
  have B1 := B0.out
  have c0 := P1.cells 0
  have c1 := P1.cells 1
  have c2 := P1.cells 2
  have c3 := P1.cells 3
  have zz : w.heap.size + 1 < ((w.alloc (.cells #[.int .i64 s] 2)).alloc (.cells #[.complex .f32 a b, .complex .f32 c d, .float .f32 q, .float .f32 m] 52)).heap.size := by simp
  go_wp2_with fail
  refine (VP.out _).mono ?_
  rintro e w3 ⟨rfl, hb⟩
  have S3 := keep (S1.below hb)
  have P3 := keep (P1.after hb)
  have B3 := keep (B1.trans (hb.mono B1.size))
  clear hb S1 P1 B1 S0 P0 B0 c0 c1 c2 c3
  go_wp2_with fail
  refine (C.out _).mono ?_
  rintro e w4 ⟨rfl, n4, rfl⟩
  have S4 : Kept (SeedAt (w3.drewN n4) w.heap.size) := keep (S3.out.below (Below.drewN _ _ _))
  have P4 := keep (P3.out.draws n4)
  have B4 := keep (Below.drewN_of B3.out n4)
  clear S3 P3 B3
  generalize w3.drewN n4 = w5 at *
  clear n4 w3 IS WI VP C zz d1 d2
  go_wp2_with fail
  go_loopw [32, 11] (fun t s wr => ∃ (ds : List Int) (A : Option Addr) (cp : Nat), ds.length ≤ 4 ∧ t = .int .i64 ds.length ∧ s = .slice A ds.length cp ∧ Kept (∀ d ∈ ds, Off d) ∧ Kept (wr.ownsRow (w.heap.size + 2) 52 4 (.slice A ds.length cp) ds.length (psCells (ds.map bD))) ∧ Kept (SeedAt wr w.heap.size) ∧ Kept (Has wr (w.heap.size + 1) 52 #[.complex .f32 a b, .complex .f32 c d, .float .f32 q, .float .f32 m]) ∧ Kept (Below w.heap.size w wr)) (fun t _ _ => 4 - (intOf t).toNat)
  case atStart => exact ⟨[], _, _, by simp, rfl, rfl, keep (fun d h => by cases h), keep (World.ownsRow_nil _ _ _ _), S4, P4, B4⟩
  case round =>
    clear S4 P4 B4
    obtain ⟨ds, A, cp, hj, rfl, rfl, hok, ho, hs, hP, hb⟩ := hrel
    by_cases hlt : ds.length < 4
    · have hltI : (ds.length : Int) < 4 := by omega
      have c0 := hP.out.cells 0
      have c1 := hP.out.cells 1
      have c2 := hP.out.cells 2
      have c3 := hP.out.cells 3
      have O1 := keep (ho.out.alloc (.cells #[.complex .f32 a b, .complex .f32 c d, .float .f32 q, .float .f32 m] 52))
      have S1 : Kept (SeedAt (wr.alloc (.cells #[.complex .f32 a b, .complex .f32 c d, .float .f32 q, .float .f32 m] 52)) w.heap.size) := keep (hs.out.below ((Below.refl _ wr).alloc (Nat.le_refl _) _))
      have P1 := keep (hP.out.beside (.cells #[.complex .f32 a b, .complex .f32 c d, .float .f32 q, .float .f32 m] 52))
      have N1 := keep (Has.made wr 52 #[.complex .f32 a b, .complex .f32 c d, .float .f32 q, .float .f32 m])
      have zP := hP.out.in_heap
      have L0 := keep (fun k e => (ho.out.lt k e).2)
      obtain ⟨i0, hi0, hz0, hz1, hz2⟩ := info_parts infoParticle
      have HI := keep hi0
      have HZ0 := keep hz0
      have HZ1 := keep hz1
      have HZ2 := keep hz2
      clear hi0 hz0 hz1 hz2
      have B1 := keep (hb.out.alloc hb.out.size (.cells #[.complex .f32 a b, .complex .f32 c d, .float .f32 q, .float .f32 m] 52))
      clear ho hs hP hb
      go_wp2_with fail
      have lN := N1.out.in_heap
      have wz : w.heap.size + 2 ≤ wr.heap.size := by omega
      generalize hz : wr.heap.size = z at *
      generalize wr.alloc (.cells #[.complex .f32 a b, .complex .f32 c d, .float .f32 q, .float .f32 m] 52) = W0 at *
      clear hz c0 c1 c2 c3
      have S2 : Kept (SeedAt W0.drew w.heap.size) := keep (S1.out.below (Below.drewN _ W0 1))
      have P2 : Kept (Has W0.drew (w.heap.size + 1) 52 #[.complex .f32 a b, .complex .f32 c d, .float .f32 q, .float .f32 m]) := keep (P1.out.draws 1)
      have N2 : Kept (Has W0.drew z 52 #[.complex .f32 a b, .complex .f32 c d, .float .f32 q, .float .f32 m]) := keep (N1.out.draws 1)
      have O2 : Kept (W0.drew.ownsRow (w.heap.size + 2) 52 4 (.slice A ds.length cp) ds.length (psCells (ds.map bD))) := keep (owns_below O1.out (Below.drewN _ W0 1))
      have B2 := keep (Below.drewN_of B1.out 1)
      have US := keep (use_seed w.heap.size W0.drew S2.out)
      have k0 := N1.out.cells 0
      have u0 := N1.out.free 0
      clear S1 P1 N1 O1 B1
      go_cut [46] (fun s46 wx => ∃ D : Int, Kept (Off D) ∧ s46 = .complex .f32 a (wd single 16 (8192 * py + D)) ∧ Has wx z 52 #[.complex .f32 a (wd single 16 (8192 * py + D)), .complex .f32 c d, .float .f32 q, .float .f32 m] ∧ SeedAt wx w.heap.size ∧ Has wx (w.heap.size + 1) 52 #[.complex .f32 a b, .complex .f32 c d, .float .f32 q, .float .f32 m] ∧ wx.ownsRow (w.heap.size + 2) 52 4 (.slice A ds.length cp) ds.length (psCells (ds.map bD)) ∧ Below w.heap.size w wx)
      case first =>
        clear HI HZ0 HZ1 HZ2
        go_region_law (first
          | (go_simp
             go_at_call 79
             refine US.out.mono ?_
             rintro e w6 ⟨n, hn, rfl, hs6, hg6⟩
             obtain ⟨e1, e2, e3⟩ := FN.out n hn
             have g1 := frun e1
             have g2 := frun e2
             have g3 := frun e3
             clear e1 e2 e3
             have P6 := keep (P2.out.byG hg6 (by intro e; injection e with e; omega))
             have N6 := keep (N2.out.byG hg6 (by intro e; injection e with e; omega))
             have O6 := keep (own_byG O2.out hg6 (by omega))
             have S6 := keep hs6
             have B6 := keep (B2.out.grown hg6 B2.out.size (fun g e => by injection e with e; omega))
             have k6 := N6.out.cells 0
             have u6 := N6.out.free 0
             clear hg6 hs6))

        all_goals
          have G7 := keep (gb_row w6 z 0 (.complex .f32 a (wd single 16 (8192 * py + (n - 16384)))))
          have N7 := keep (N6.out.written 0 (.complex .f32 a (wd single 16 (8192 * py + (n - 16384)))))
          have P7 := keep (P6.out.byG G7.out (by intro e; injection e with e; omega))
          have S7 := keep (S6.out.byG G7.out (by intro e; injection e with e; omega))
          have O7 := keep (O6.out.kept G7.out (.inr fun e => by have := L0.out _ e; omega))
          have B7 := keep (B6.out.setCell (p := ⟨z, 0, none⟩) (by show w.heap.size ≤ z; omega) (.complex .f32 a (wd single 16 (8192 * py + (n - 16384)))))
          clear k6 u6 N6 P6 S6 O6 B6 S2 P2 N2 O2 B2 US k0 u0 g1 g2 g3 FN AQ BA BC
          go_wp2_with fail
          go_meet
          exact ⟨n - 16384, keep (by have := hn.out; exact ⟨by omega, by omega⟩), rfl, N7.out, S7.out, P7.out, O7.out, B7.out⟩
      case rest =>
        obtain ⟨D, hD, rfl, hN, hs, hP, ho, hb⟩ := hcut
        have N8 := keep hN
        have S8 := keep hs
        have P8 := keep hP
        have O8 := keep ho
        have B8 := keep hb
        have c0 := N8.out.cells 0
        have c1 := N8.out.cells 1
        have c2 := N8.out.cells 2
        have c3 := N8.out.cells 3
        clear hN hs hP ho hb S2 P2 N2 O2 B2 US k0 u0 FN AQ BA
        have zN := N8.out.in_heap
        have DL := keep (show ds.length < 4 from hlt)
        go_wp2_with (at_builtin; go_loud (refine wpList_append_own_at _ rfl _ _ 26 rfl (w.heap.size + 2) 52 i0 _ 4 24 Try.underlying26 HI.out HZ0.out HZ1.out HZ2.out rfl (by decide) (.slice A ds.length cp) ds.length _ rfl (O8.out.alloc _) ⟨wc.heap.size, 0, none⟩ 1 1 (bD D).cells rfl rfl ?c1 ?c2 ?c3 ?c4 ?c5 ?_))
        case c1 =>
          rw [BC.out]
          have r := Has.made wc 52 #[.complex .f32 a (wd single 16 (8192 * py + D)), .complex .f32 c d, .float .f32 q, .float .f32 m]
          intro j u hj
          exact four_new r j u hj
        case c2 =>
          intro u hu
          rw [BC.out] at hu
          simp only [List.mem_cons, List.not_mem_nil, or_false] at hu
          rcases hu with rfl | rfl | rfl | rfl <;> rfl
        case c3 => unfold maxLen; omega
        case c4 => omega
        case c5 => first | omega | (simp only [World.size_alloc, World.size_setCell]; omega)
        intro v' w5' hown' hgrow _ _
        obtain ⟨g', cap', rfl, hB', hlt'⟩ := hown'.form (by omega)
        have hL := O8.out.lt
        have bX : Below (w.heap.size + 2) _ w5' := (Below.refl (w.heap.size + 2) _).grown hgrow (by simp only [World.size_alloc, World.size_setCell]; omega) (fun b e => (hL b e).1)
        have bX0 := ((Below.refl (w.heap.size + 2) wc).alloc (by omega) _).trans bX
        have S9 : Kept (SeedAt w5' w.heap.size) := keep (by
          obtain ⟨t, t0, t1, ht⟩ := S8.out
          exact ⟨t, t0, t1, ht.under bX0 (by omega)⟩)
        have P9 := keep (P8.out.under bX0 (by omega))
        have B9 := keep (B8.out.trans (bX0.mono (by omega)))
        have OW := keep hown'
        clear hown' hgrow bX bX0 hL
        go_wp2_with fail
        go_roundw
        case rel => exact ⟨ds ++ [D], _, _, by rw [List.length_append]; show ds.length + 1 ≤ 4; omega, by rw [List.length_append]; go_num, by rw [List.length_append]; rfl, keep (fun p0 h0 => by
          rcases List.mem_append.1 h0 with h1 | h1
          · exact hok.out _ h1
          · rw [List.mem_singleton.1 h1]; exact hD.out), keep (by
          have e := OW.out
          rw [List.map_append, psCells_append, List.length_append]
          show World.ownsRow _ _ _ _ _ _ (psCells (ds.map bD) ++ psCells [bD D])
          rw [show psCells [bD D] = (bD D).cells from by unfold psCells; simp]
          exact e), S9, P9, B9⟩
        case measure => simp [intOf]; omega
    · obtain hl4 : ds.length = 4 := by omega
      have AQ2 := keep (fun B v w h => AQ.out ds hok.out hl4 B v w h)
      obtain ⟨t, t0, t1, ht⟩ := hs.out
      have HT := keep ht
      have T0 := keep t0
      have O4 := ho.out
      rw [hl4] at O4
      have O5 := keep O4
      have HD := keep hok.out
      have hB5 := keep hb.out
      clear ht hs t1 ho hok hb O4 BC FN BA AQ hP t0
      go_wp2_with fail
      refine (AQ2.out _ _ _ O5.out).mono ?_
      rintro e w6 ⟨rfl, hb6⟩
      have HT6 := HT.out.after hb6
      have O6 := keep (owns_below O5.out hb6)
      have B6 := keep (hB5.out.trans (hb6.mono hB5.out.size))
      have k6 := HT6.cells 0
      clear hb6 HT6 AQ2
      go_wp2_with fail
      go_quiet (fail)
      go_wp2_with fail
      go_ret3
      exact ⟨ds, _, _, t, hl4, HD.out, T0.out, rfl, own_base (owns_below O6.out (Below.drewN _ _ _)) (by omega), Below.drewN_of B6.out _⟩
end Go.Proofs.Ytnmdgbnophclnaa
