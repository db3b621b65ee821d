/- Contracts: many sweeps, potentials by sweeps, sweeps of a colour of a copy, by words. No condition but that each step runs. -/
import Derived.Test.YtmlocjcfcmifdaaXt
import Derived.Deep.RegionLaw
namespace Go.Proofs.Ytmlocjcfcmifdaa
open Go.RowKit Go.Sort Ieee
set_option linter.unusedSimpArgs false
set_option linter.unusedVariables false

set_option maxHeartbeats 8000000 in
set_option maxRecDepth 20000 in
theorem sweeps_ok (W H : Nat) (h : Sd W H) (m : Nat) (hm : m ≤ 1000) {r v : Nat → Nat} (OK : OkI W H r v m) (g gr : Nat) (hne : gr ≠ g) (cap cr : Nat) (cur : Array Value) (w : World) (hv : Has w g 28 cur) (cv : CW cur (W * H) v) (hr : FW w gr (W * H) r) :
    Calls Try.prog 64 #[gV W H, .slice (some ⟨g, 0, none⟩) (W * H) cap, .slice (some ⟨gr, 0, none⟩) (W * H) cr, .int .i64 m] w fun e w' => e = .returned (.tuple #[]) ∧ ∃ cur' : Array Value, Has w' g 28 cur' ∧ CW cur' (W * H) (swI W H r m v) ∧ w.grownBy w' (some g) := by
  have S0 := fun v OK cur w hv cv hr => @sweep_ok W H h 0 r v OK g gr hne cap cr cur w hv cv hr
  have S1 := fun v OK cur w hv cv hr => @sweep_ok W H h 1 r v OK g gr hne cap cr cur w hv cv hr
  rw [show ((0 : Nat) : Int) = (0 : Int) from rfl] at S0
  rw [show ((1 : Nat) : Int) = (1 : Int) from rfl] at S1
  have S0 := keep S0
  have S1 := keep S1
  have HO := keep OK
  have lg := hv.in_heap
  have G0 := keep (Has.made w 36 #[.int .i64 W, .int .i64 H])
  have V0 := keep (hv.beside (.cells #[.int .i64 W, .int .i64 H] 36))
  have R0 := keep (hr.beside (.cells #[.int .i64 W, .int .i64 H] 36))
  have B0 := keep (zgb_alloc (World.grownBy.refl w (some g)) (.cells #[.int .i64 W, .int .i64 H] 36))
  have hgb : g ≠ w.heap.size := by omega
  have C0 : Kept (CW cur (W * H) (swI W H r 0 v)) := keep cv
  have hne2 : (some w.heap.size : Option Nat) ≠ some g := by intro e; injection e with e; omega
  clear h hv hr cv OK
  unfold gV at *
  go_enter Try.func64, Try.ntmps64
  go_wp2_with fail
  generalize w.alloc (.cells #[.int .i64 W, .int .i64 H] 36) = w0 at *
  go_loopw [9] (fun s wr => ∃ (j : Nat) (cur : Array Value), j ≤ m ∧ s = .int .i64 j ∧ Kept (Has wr g 28 cur) ∧ Kept (CW cur (W * H) (swI W H r j v)) ∧ Kept (FW wr gr (W * H) r) ∧ Kept (Has wr w.heap.size 36 #[.int .i64 W, .int .i64 H]) ∧ Kept (w.grownBy wr (some g))) (fun s _ => m - (intOf s).toNat)
  case atStart => exact ⟨0, cur, Nat.zero_le _, rfl, V0, C0, R0, G0, B0⟩
  case round =>
    clear V0 C0 R0 G0 B0
    obtain ⟨j, cur, hj, rfl, hv, hc, hr, hg, hb⟩ := hrel
    by_cases hlt : j < m
    · have hlt' : (j : Int) < (m : Int) := by omega
      obtain ⟨o1, o2⟩ := HO.out j hlt
      have O1 := keep o1
      have O2 := keep o2
      have cg := hg.out.cells
      clear o1 o2
      go_wp2_with fail
      with_reducible refine (S0.out _ O1.out _ _ hv.out hc.out hr.out).mono ?_
      rintro e w1 ⟨rfl, cur1, hv1, hc1, hb1⟩
      have R1 := keep (hr.out.byG hb1 hne)
      have G1 := keep (zhas_byG hg.out hb1 (fun e => hne2 e.symm))
      have V1 := keep hv1
      have C1 := keep hc1
      have B1 := keep (zgb_trans hb.out hb1)
      clear hv hc hr hg hb hv1 hc1 hb1 cg O1
      have cg := G1.out.cells
      go_wp2_with fail
      with_reducible refine (S1.out _ O2.out _ _ V1.out C1.out R1.out).mono ?_
      rintro e w2 ⟨rfl, cur2, hv2, hc2, hb2⟩
      have R2 := keep (R1.out.byG hb2 hne)
      have G2 := keep (zhas_byG G1.out hb2 (fun e => hne2 e.symm))
      have V2 := keep hv2
      have C2 := keep hc2
      have B2 := keep (zgb_trans B1.out hb2)
      clear V1 C1 R1 G1 B1 hv2 hc2 hb2 cg O2
      go_wp2_with fail
      go_roundw
      case rel => exact ⟨j + 1, cur2, by omega, by go_num, V2, C2, R2, G2, B2⟩
      case measure => simp [intOf]; omega
    · obtain rfl : j = m := by omega
      go_wp2_with fail
      go_end0
      exact ⟨rfl, cur, hv.out, hc.out, hb.out⟩

set_option maxHeartbeats 8000000 in
set_option maxRecDepth 20000 in
theorem potential_ok (W H : Nat) (h : Sd W H) {ch S r : Nat → Nat} {m : Nat} (M : MeanW (W * H) ch S m r) (k : Nat) (hk : k ≤ 1000) (OK : OkI W H r (fun _ => 0) k) {S2 o : Nat → Nat} {m2 : Nat} (M2 : MeanW (W * H) (swI W H r k (fun _ => 0)) S2 m2 o) (g c : Nat) (w : World) (hc : FW w g (W * H) ch) :
    Calls Try.prog 53 #[gV W H, .slice (some ⟨g, 0, none⟩) (W * H) c, .int .i64 k] w fun e w' => ∃ (g2 d : Nat) (cur : Array Value), e = .returned (.slice (some ⟨g2, 0, none⟩) (W * H) d) ∧ w.heap.size ≤ g2 ∧ Has w' g2 28 cur ∧ CW cur (W * H) o ∧ W * H ≤ d ∧ Below w.heap.size w w' := by
  have SL := sd_le W H h
  have WM := keep (fun w hc => withoutMeanW_ok (W * H) (by omega) (by omega) M g c w hc)
  have SWS := keep (fun gv gr (hne : gr ≠ gv) cr cur w hv cv hr => sweeps_ok W H h k hk OK gv gr hne (W * H) cr cur w hv cv hr)
  have WO := keep (fun gv w hc => withoutMeanW_ok (W * H) (by omega) (by omega) M2 gv (W * H) w hc)
  have MK := run_mkW (W * H) (by omega) (w.alloc (.cells #[.int .i64 W, .int .i64 H] 36))
  have G0 := keep ((Has.made w 36 #[.int .i64 W, .int .i64 H]).beside (.cells (Array.replicate (W * H) (.float .f32 0)) 28))
  have V0 := Has.made (w.alloc (.cells #[.int .i64 W, .int .i64 H] 36)) 28 (Array.replicate (W * H) (.float .f32 0))
  simp only [World.size_alloc] at V0
  have V0 := keep V0
  have C0 := keep ((hc.beside (.cells #[.int .i64 W, .int .i64 H] 36)).beside (.cells (Array.replicate (W * H) (.float .f32 0)) 28))
  have B0 := keep (((Below.refl w.heap.size w).alloc (Nat.le_refl _) (.cells #[.int .i64 W, .int .i64 H] 36)).alloc (by simp) (.cells (Array.replicate (W * H) (.float .f32 0)) 28))
  have Z0 := keep (CW.zeros (W * H))
  have hlg := hc.1
  clear h M OK M2 hc
  unfold gV at *
  generalize W * H = n at *
  go_enter Try.func53, Try.ntmps53
  go_wp2_with fail
  clear MK
  generalize (w.alloc (.cells #[.int .i64 W, .int .i64 H] 36)).alloc (.cells (Array.replicate n (.float .f32 0)) 28) = w0 at *
  have cg := G0.out.cells
  have DG := keep (fun w1 (hb : Below w0.heap.size w0 w1) => (G0.out.after hb).cells)
  have lv := V0.out.in_heap
  go_region_law (first
    | (go_simp
       go_at_call 48
       refine (WM.out _ (C0.out.after (Below.drew (Below.refl _ _)))).mono ?_
       rintro e w1 ⟨g9, d9, c9, rfl, hg9, hh9, hc9, hd9, hb9⟩
       have R1 := keep (hc9.fw hh9)
       have L1 : w0.heap.size ≤ g9 := hg9
       have Q1 := keep ((Below.drew (Below.refl w0.heap.size w0)).trans hb9)
       have V1 := keep (V0.out.after Q1.out)
       have cg2 := DG.out _ Q1.out
       have hne9 : g9 ≠ w.heap.size + 1 := by omega
       clear hg9 hh9 hc9 hd9 hb9)
    | (go_simp
       go_at_call 64
       refine (SWS.out _ _ hne9 _ _ _ V1.out Z0.out R1.out).mono ?_
       rintro e w2 ⟨rfl, c2, hv2, hc2, hb2⟩
       have V2 := keep hv2
       have C2 := keep hc2
       have Q2 := keep (zgb_below (World.grownBy.refl w0 (some (w.heap.size + 1))) Q1.out (Nat.le_refl _))
       have Q3 := keep (zgb_trans Q2.out hb2)
       clear hv2 hc2 hb2))
  all_goals
    have B2 := keep (B0.out.grown Q3.out B0.out.size (fun g e => by injection e with e; omega))
    have F2 := keep (C2.out.fw V2.out)
    clear cg cg2 Q1 Q2 Q3 V1 V2 C2 R1 DG WM SWS C0 V0 G0 B0 Z0
    go_wp2_with fail
    refine (WO.out _ _ F2.out).mono ?_
    rintro e w3 ⟨g3, d3, c3, rfl, hg3, hh3, hc3, hd3, hb3⟩
    have HH := keep hh3
    have HC := keep hc3
    have B3 := keep (B2.out.trans (hb3.mono B2.out.size))
    have l3 : w.heap.size ≤ g3 := Nat.le_trans B2.out.size hg3
    clear hh3 hc3 hb3 hg3 F2 B2 WO
    go_wp2_with fail
    go_ret
    exact ⟨g3, d3, c3, rfl, l3, HH.out, HC.out, hd3, B3.out⟩

set_option maxHeartbeats 4000000 in
theorem SolvePotential_ok (W H : Nat) (h : Sd W H) {ch S r : Nat → Nat} {m : Nat} (M : MeanW (W * H) ch S m r) (OK : OkI W H r (fun _ => 0) 60) {S2 o : Nat → Nat} {m2 : Nat} (M2 : MeanW (W * H) (swI W H r 60 (fun _ => 0)) S2 m2 o) (g c : Nat) (w : World) (hc : FW w g (W * H) ch) :
    Calls Try.prog 18 #[gV W H, .slice (some ⟨g, 0, none⟩) (W * H) c, .int .i64 60] w fun e w' => ∃ (g2 d : Nat) (cur : Array Value), e = .returned (.tuple #[.slice (some ⟨g2, 0, none⟩) (W * H) d, .bool true]) ∧ w.heap.size ≤ g2 ∧ Has w' g2 28 cur ∧ CW cur (W * H) o ∧ W * H ≤ d ∧ Below w.heap.size w w' := by
  have IF := keep (fun w => xIsField W H h (some ⟨g, 0, none⟩) c w)
  have IR : Kept (∀ w, Calls Try.prog 52 #[.int .i64 60] w fun e w' => e = .returned (.bool true) ∧ w' = w) := keep (by
    intro w
    have WI : Kept (∀ w, Calls Try.prog 43 #[.int .i64 60, .int .i64 0, .int .i64 60] w fun e w' => e = .returned (.bool true) ∧ w' = w) := keep (fun w => (within_any 60 0 60 w).mono fun e w' ⟨he, hw⟩ => ⟨by rw [he]; rfl, hw⟩)
    go_enter Try.func52, Try.ntmps52
    go_wp2_with fail
    refine (WI.out _).mono ?_
    rintro e w' ⟨rfl, rfl⟩
    go_wp2_with fail
    go_ret
    exact ⟨rfl, rfl⟩)
  have P0 := fun w hc => potential_ok W H h M 60 (by omega) OK M2 g c w hc
  rw [show ((60 : Nat) : Int) = (60 : Int) from rfl] at P0
  have P0 := keep P0
  have P := keep (Has.made w 36 #[.int .i64 W, .int .i64 H])
  have B0 := keep ((Below.refl w.heap.size w).alloc (Nat.le_refl _) (.cells #[.int .i64 W, .int .i64 H] 36))
  have H0 := keep (hc.beside (.cells #[.int .i64 W, .int .i64 H] 36))
  clear h M OK M2 hc
  unfold gV at *
  generalize W * H = n at *
  go_enter Try.func18, Try.ntmps18
  have cg := P.out.cells
  go_wp2_with fail
  refine (IF.out _).mono ?_
  rintro e w1 ⟨rfl, hb⟩
  have P1 := keep (P.out.after hb)
  have H1 := keep (H0.out.after hb)
  have B1 := keep (B0.out.trans (hb.mono B0.out.size))
  clear hb P H0 B0 IF cg
  have cg := P1.out.cells
  go_wp2_with fail
  refine (IR.out _).mono ?_
  rintro e w' ⟨rfl, hw⟩
  have hw := hw.symm
  subst hw
  clear IR
  go_wp2_with fail
  refine (P0.out _ H1.out).mono ?_
  rintro e w2 ⟨g2, d, cur, rfl, hg, hh, hc, hd, hb⟩
  have B2 := keep (B1.out.trans (hb.mono B1.out.size))
  have HH := keep hh
  have HC := keep hc
  have l2 : w.heap.size ≤ g2 := Nat.le_trans B1.out.size hg
  clear hb hh hc hg H1 B1 P0 cg P1
  go_wp2_with fail
  go_ret2
  exact ⟨g2, d, cur, rfl, l2, HH.out, HC.out, hd, B2.out⟩

set_option maxHeartbeats 8000000 in
set_option maxRecDepth 20000 in
theorem SweepColour_ok (W H : Nat) (h : Sd W H) (q : Nat) (hq : q < 2) {v ch S r : Nat → Nat} {m : Nat} (M : MeanW (W * H) ch S m r) (OK : OkS W H q r v) (g1 g2 c1 c2 : Nat) (w : World) (hv : FW w g1 (W * H) v) (hc : FW w g2 (W * H) ch) :
    Calls Try.prog 22 #[gV W H, .slice (some ⟨g1, 0, none⟩) (W * H) c1, .slice (some ⟨g2, 0, none⟩) (W * H) c2, .int .i64 q] w fun e w' => ∃ (g d : Nat), e = .returned (.tuple #[.slice (some ⟨g, 0, none⟩) (W * H) d, .bool true]) ∧ w.heap.size ≤ g ∧ FW w' g (W * H) (swS W H q r (W * H) v) ∧ Below w.heap.size w w' := by
  have SL := sd_le W H h
  have AF := keep (fun w => xareFields W H h (some ⟨g1, 0, none⟩) (some ⟨g2, 0, none⟩) c1 c2 w)
  have WI : Kept (∀ w, Calls Try.prog 43 #[.int .i64 q, .int .i64 0, .int .i64 1] w fun e w' => e = .returned (.bool true) ∧ w' = w) := keep (fun w => (within_any q 0 1 w).mono fun e w' ⟨he, hw⟩ => ⟨by rw [he]; congr 2; simp; omega, hw⟩)
  have CL := keep (fun w hv => CloneW_ok g1 (W * H) c1 v w hv (by omega) (by omega))
  have WM := keep (fun w hc => withoutMeanW_ok (W * H) (by omega) (by omega) M g2 c2 w hc)
  have SW := keep (fun gv gr (hne : gr ≠ gv) cp cr cur w hv cv hr => sweep_ok W H h q OK gv gr hne cp cr cur w hv cv hr)
  have P := keep (Has.made w 36 #[.int .i64 W, .int .i64 H])
  have B0 := keep ((Below.refl w.heap.size w).alloc (Nat.le_refl _) (.cells #[.int .i64 W, .int .i64 H] 36))
  have V0 := keep (hv.beside (.cells #[.int .i64 W, .int .i64 H] 36))
  have C0 := keep (hc.beside (.cells #[.int .i64 W, .int .i64 H] 36))
  clear h M OK hv hc
  unfold gV at *
  generalize W * H = n at *
  go_enter Try.func22, Try.ntmps22
  have cg := P.out.cells
  go_wp2_with fail
  refine (AF.out _).mono ?_
  rintro e w1 ⟨rfl, hb⟩
  have P1 := keep (P.out.after hb)
  have V1 := keep (V0.out.after hb)
  have C1 := keep (C0.out.after hb)
  have B1 := keep (B0.out.trans (hb.mono B0.out.size))
  clear hb P B0 V0 C0 AF cg
  go_wp2_with fail
  refine (WI.out _).mono ?_
  rintro e w' ⟨rfl, hw⟩
  have hw := hw.symm
  subst hw
  clear WI
  go_wp2_with fail
  refine (CL.out _ V1.out).mono ?_
  rintro e w2 ⟨g8, d8, cur8, rfl, hg8, hh8, hc8, hd8, hb⟩
  have P2 := keep (P1.out.after hb)
  have C2 := keep (C1.out.after hb)
  have B2 := keep (B1.out.trans (hb.mono B1.out.size))
  have H2 := keep hh8
  have K2 := keep hc8
  have n2 : g8 < w2.heap.size := hh8.in_heap
  have l8 : w.heap.size ≤ g8 := Nat.le_trans B1.out.size hg8
  clear hb P1 V1 C1 B1 CL hg8 hh8 hc8
  have cg := P2.out.cells
  have DG := keep (fun w1 (hb : Below w2.heap.size w2 w1) => (P2.out.after hb).cells)
  go_wp2_with fail
  go_region_law (first
    | (go_simp
       go_at_call 48
       refine (WM.out _ (C2.out.after (Below.drew (Below.refl _ _)))).mono ?_
       rintro e w3 ⟨g9, d9, c9, rfl, hg9, hh9, hc9, hd9, hb9⟩
       have R3 := keep (hc9.fw hh9)
       have L3 : w2.heap.size ≤ g9 := hg9
       have Q3 := keep ((Below.drew (Below.refl w2.heap.size w2)).trans hb9)
       have V3 := keep (H2.out.after Q3.out)
       have cg2 := DG.out _ Q3.out
       have hne9 : g9 ≠ g8 := by omega
       clear hg9 hh9 hc9 hd9 hb9)
    | (go_simp
       go_at_call 58
       refine (SW.out _ _ hne9 _ _ _ _ V3.out K2.out R3.out).mono ?_
       rintro e w4 ⟨rfl, c4, hv4, hc4, hb4⟩
       have F4 := keep (hc4.fw hv4)
       have Q4 := keep (zgb_trans (zgb_below (World.grownBy.refl w2 (some g8)) Q3.out (Nat.le_refl _)) hb4)
       clear hv4 hc4 hb4))
  all_goals
    have B4 := keep (B2.out.grown Q4.out B2.out.size (fun g e => by injection e with e; omega))
    clear cg cg2 Q3 Q4 V3 R3 DG WM SW C2 P2 B2 H2 K2
    go_wp2_with fail
    go_ret2
    exact ⟨g8, d8, rfl, l8, F4.out, B4.out⟩
end Go.Proofs.Ytmlocjcfcmifdaa
