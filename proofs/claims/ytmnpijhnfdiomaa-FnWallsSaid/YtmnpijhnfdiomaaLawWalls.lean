/- The law FnWalls by its walk. No condition but that the bytes can be read. -/
import Derived.Test.YtmnpijhnfdiomaaHg
import Derived.Test.YtmnpijhnfdiomaaHh
import Derived.Test.YtmnpijhnfdiomaaSeg
import Derived.Deep.DeepCutAuto
import Derived.Outline
namespace Go.Proofs.Ytmnpijhnfdiomaa
open Go.RowKit Go.Sort Ieee
set_option linter.unusedSimpArgs false

theorem has_at2 (w : World) (t : TypeId) (cs : Array Value) (b : Nat) (h : b = w.heap.size) : Has (w.alloc (.cells cs t)) b t cs := h ▸ Has.made w t cs
theorem Has.drew1 {w : World} {g : Nat} {t : TypeId} {cs : Array Value} (h : Has w g t cs) : Has w.drew g t cs := h
theorem bcell {W w1 : World} (hb : Below W.heap.size W w1) : (∀ b o, b < W.heap.size → w1.cell? ⟨b, o, none⟩ = W.cell? ⟨b, o, none⟩) ∧ (∀ b o, b < W.heap.size → w1.frozen? ⟨b, o, none⟩ = W.frozen? ⟨b, o, none⟩) :=
  ⟨fun b o h => hb.cell (p := ⟨b, o, none⟩) h, fun b o h => hb.frozen (p := ⟨b, o, none⟩) h⟩
theorem own_one {w : World} {b : Nat} {r : PD} (h : Has w b 50 #[.complex .f32 r.a r.b, .complex .f32 r.c r.d, .float .f32 r.q, .float .f32 r.m]) : w.ownsRow 0 50 4 (.slice (some ⟨b, 0, none⟩) 1 1) [r].length (psCells [r]) :=
  ⟨rfl, .inr ⟨b, 1, _, rfl, Nat.zero_le _, h, Nat.le_refl _, by simp [maxLen], rfl, rfl⟩⟩
theorem sum_split (f : GP → Bool) (gs : List GP) : sumQ (gs.filter f) + sumQ (gs.filter (fun p => !f p)) = sumQ gs := by
  induction gs with
  | nil => rfl
  | cons p gs ih =>
    unfold sumQ at *
    cases hf : f p <;> simp [hf] <;> omega
theorem len_split (f : GP → Bool) (gs : List GP) : (gs.filter f).length + (gs.filter (fun p => !f p)).length = gs.length := by
  induction gs with
  | nil => rfl
  | cons p gs ih => cases hf : f p <;> simp [hf] <;> omega

set_option maxHeartbeats 40000000 in
set_option maxRecDepth 20000 in
theorem lawWalls_any (a1 a2 : Option Addr) (n1 c1 n2 c2 : Nat) (w : World) (hb1 : Bytes w a1 n1) (hb2 : Bytes w a2 n2) :
    Calls Try.prog 4 #[.slice a1 n1 c1, .slice a2 n2 c2] w fun e w' => e = .returned (.bool true) ∧ Below w.heap.size w w' := by
  have LO := keep (fun w => r8Long_any a1 a2 n1 c1 n2 c2 w)
  cases hl : (decide (48 < n1) || decide (48 < n2))
  case true =>
    rw [hl] at LO
    clear hl hb1 hb2
    go_enter Try.func4, Try.ntmps4
    go_wp2_with fail
    refine (LO.out _).mono ?_
    rintro e w' ⟨rfl, rfl⟩
    go_wp2_with fail
    go_ret
    exact ⟨rfl, Below.refl _ _⟩
  case false =>
    rw [hl] at LO
    have GR := keep (R8List_ok a1 n1 c1 w hb1)
    have HB2 := keep hb2
    clear hl hb1 hb2
    go_enter Try.func4, Try.ntmps4
    go_wp2_with fail
    refine (LO.out _).mono ?_
    rintro e w' ⟨rfl, rfl⟩
    go_wp2_with fail
    refine GR.out.mono ?_
    rintro e w1 ⟨gs, v, hN, hok, rfl, hown, hb⟩
    obtain ⟨A, c, rfl⟩ := own_slice hown
    have hby : Bytes w1 a2 n2 := HB2.out.later hb (fun b o e hn => by
      obtain ⟨b', o', e', hl, _⟩ := HB2.out 0 hn
      rw [e] at e'
      injection e' with e'
      injection e' with e'
      omega)
    have R0 := keep (r8At_ok a2 n2 c2 0 8 w1 hby (by omega) (by omega))
    have R1 := keep (r8At_ok a2 n2 c2 1 8 w1 hby (by omega) (by omega))
    have OW := keep (own_base hown (Nat.le_succ _))
    have B1 := keep hb
    have HO := keep hok
    clear hb hown hok hby LO GR HB2
    go_wp2_with fail
    refine R0.out.mono ?_
    rintro e w' ⟨⟨r0, h0, rfl⟩, rfl⟩
    have q1 : floatBits .quo .f32 (floatOfInt .f32 (r0 : Int)) 1073741824 = some (wd single 3 (4 * (r0 : Int))) := by rw [← half_word r0 (by omega)]; exact div2 _ (by omega) (by omega)
    have f1 := frun q1
    clear q1
    go_wp2_with fail
    refine R1.out.mono ?_
    rintro e w' ⟨⟨r1, h1, rfl⟩, rfl⟩
    have q2 := frun (div2 (1 + (r1 : Int)) (by omega) (by omega))
    have q3 : floatBits .add .f32 (wd single 3 (4 * (r0 : Int))) (wd single 1 (1 + (r1 : Int))) = some (wd single 3 (4 * ((r0 + 1 + r1 : Nat) : Int))) := by
      have e := half_word (1 + r1) (by omega)
      rw [show ((1 + r1 : Nat) : Int) = 1 + (r1 : Int) from by omega] at e
      rw [e, fadd (by omega) (by omega) (by omega) (by omega)]
      congr 2
      omega
    have f3 := frun q3
    have hW : Walls (4 * (r0 : Int)) (4 * ((r0 + 1 + r1 : Nat) : Int)) := ⟨by omega, by omega, by omega⟩
    have HW := keep hW
    generalize hL : 4 * (r0 : Int) = L at *
    generalize hH : 4 * ((r0 + 1 + r1 : Nat) : Int) = H at *
    have RA := ReflectAll_ok L H hW _ (.slice A gs.length c) gs _ OW.out HO.out hN
    have TA := fun B wx hx => TakeOutside_ok L H hW B (.slice A gs.length c) gs wx hx HO.out hN
    have sq := sum_split (isOut L H) gs
    have sl := len_split (isOut L H) gs
    have bi := sumQ_bound (gs.filter (fun p => !isOut L H p)) (fun p hp => HO.out p (List.mem_filter.1 hp).1)
    have bo := sumQ_bound (gs.filter (isOut L H)) (fun p hp => HO.out p (List.mem_filter.1 hp).1)
    have bg := sumQ_bound gs HO.out
    have CI := fun B v wx hx => ChargeOf_ok B v (gs.filter (fun p => !isOut L H p)) wx hx (fun p hp => HO.out p (List.mem_filter.1 hp).1) (by omega)
    have CG := keep (fun B v wx hx => ChargeOf_ok B v gs wx hx HO.out hN)
    unfold cntOut at RA
    generalize gs.filter (fun p => !isOut L H p) = ins at *
    generalize gs.filter (isOut L H) = outs at *
    have fs := frun (fadd (k := 1) (a := sumQ outs) (b := sumQ ins) (by omega) (by omega) (by omega) (by omega))
    rw [sq] at fs
    have os := order_wd_self 1 (sumQ gs) (by omega) (by omega)
    have hcn : (gs.length : Int) - (ins.length : Int) = (outs.length : Int) := by omega
    replace RA := keep RA
    replace TA := keep TA
    replace CI := keep CI
    clear q3 hW hL hH R0 R1 sq sl bi bo bg
    go_wp2_with fail
    refine RA.out.mono ?_
    rintro e w2 ⟨D, d, rfl, own2, hb⟩
    have OW2 := keep (owns_below OW.out hb)
    have OD2 := keep own2
    have B2 := keep (B1.out.trans (hb.mono B1.out.size))
    clear own2 hb OW B1 RA f1 q2 f3
    go_wp2_with fail
    refine (TA.out _ _ OW2.out).mono ?_
    rintro e w3 ⟨E, en, rfl, own3, hb⟩
    have OW3 := keep (owns_below OW2.out hb)
    have OD3 := keep (owns_below OD2.out hb)
    have OE3 := keep own3
    have B3 := keep (B2.out.trans (hb.mono B2.out.size))
    clear own3 hb OW2 OD2 B2 TA
    go_wp2_with fail
    refine (CG.out _ _ _ OW3.out).mono ?_
    rintro e w4 ⟨rfl, hb⟩
    have OW4 := keep (owns_below OW3.out hb)
    have OD4 := keep (owns_below OD3.out hb)
    have OE4 := keep (owns_below OE3.out hb)
    have B4 := keep (B3.out.trans (hb.mono B3.out.size))
    clear hb OW3 OD3 OE3 B3 CG
    go_wp2_with fail
    refine (CI.out _ _ _ OE4.out).mono ?_
    rintro e w5 ⟨rfl, hb⟩
    have OW5 := keep (owns_below OW4.out hb)
    have OD5 := keep (owns_below OD4.out hb)
    have B5 := keep (B4.out.trans (hb.mono B4.out.size))
    clear hb OW4 OD4 OE4 B4 CI
    go_wp2_with fail
    obtain ⟨A5, c5, he5, HA⟩ := gown_form OW5.out
    injection he5 with e1 e2 e3
    subst e1
    subst e3
    replace HA := keep HA
    obtain ⟨D5, d5, he5, HD⟩ := own_form (ps := gs.map (reflD L H)) (by rw [List.length_map]; exact OD5.out)
    rw [List.length_map] at HD he5
    injection he5 with e1 e2 e3
    subst e1
    subst e3
    replace HD := keep HD
    go_loopw [18] (fun s wr => ∃ i : Nat, i ≤ gs.length ∧ s = .int .i64 i ∧ Kept (Below w5.heap.size w5 wr)) (fun s _ => gs.length - (intOf s).toNat)
    case atStart => exact ⟨0, Nat.zero_le _, rfl, keep (Below.refl _ _)⟩
    case round =>
      clear fs os hcn OW5 OD5
      obtain ⟨i, hi, rfl, hb⟩ := hrel
      by_cases hlt : i < gs.length
      · obtain ⟨g, rfl, hg, c0, c1, c2, c3⟩ := HA.out i hlt
        obtain ⟨g2, rfl, hg2, hcell⟩ := HD.out (by omega)
        have hi' : i < (gs.map (reflD L H)).length := by rw [List.length_map]; exact hlt
        have k0 := (hb.out.cell (p := ⟨g, i * 4, none⟩) hg).trans c0
        have k1 := (hb.out.cell (p := ⟨g, i * 4 + 1, none⟩) hg).trans c1
        have k2 := (hb.out.cell (p := ⟨g, i * 4 + 2, none⟩) hg).trans c2
        have k3 := (hb.out.cell (p := ⟨g, i * 4 + 3, none⟩) hg).trans c3
        have h4 : ∀ j u, j < 4 → (reflD L H gs[i]).cells[j]? = some u → wr.cell? ⟨g2, i * 4 + j, none⟩ = some u := fun j u hj hu => by
          rw [hb.out.cell (p := ⟨g2, i * 4 + j, none⟩) hg2]
          exact hcell _ _ (by rw [psCells_at _ i hi' j hj, List.getElem_map]; exact hu)
        have m0 : wr.cell? ⟨g2, i * 4, none⟩ = some (.complex .f32 (reflD L H gs[i]).a (reflD L H gs[i]).b) := h4 0 _ (by omega) rfl
        have m1 : wr.cell? ⟨g2, i * 4 + 1, none⟩ = some (.complex .f32 (reflD L H gs[i]).c (reflD L H gs[i]).d) := h4 1 _ (by omega) rfl
        have m2 : wr.cell? ⟨g2, i * 4 + 2, none⟩ = some (.float .f32 (reflD L H gs[i]).q) := h4 2 _ (by omega) rfl
        have m3 : wr.cell? ⟨g2, i * 4 + 3, none⟩ = some (.float .f32 (reflD L H gs[i]).m) := h4 3 _ (by omega) rfl
        have hp := HO.out _ (List.getElem_mem hlt)
        have RT := keep (fun w => ReflectAt_ok L H HW.out gs[i] hp w)
        have HP := keep hp
        have lg : g < wr.heap.size := Nat.lt_of_lt_of_le hg hb.out.size
        have lg2 : g2 < wr.heap.size := Nat.lt_of_lt_of_le hg2 hb.out.size
        clear hcell h4 c0 c1 c2 c3 hp HA HD HO hi'
        generalize gs[i] = p at *
        have RN := keep (reflD_num HW.out HP.out)
        unfold GP.agg PD.agg at RT
        go_wp2_with fail
        refine (RT.out _).mono ?_
        rintro e w6 ⟨rfl, hb6⟩
        have K := bcell hb6
        replace k0 := (K.1 _ _ lg).trans k0
        replace k1 := (K.1 _ _ lg).trans k1
        replace k2 := (K.1 _ _ lg).trans k2
        replace k3 := (K.1 _ _ lg).trans k3
        replace m0 := (K.1 _ _ lg2).trans m0
        replace m1 := (K.1 _ _ lg2).trans m1
        replace m2 := (K.1 _ _ lg2).trans m2
        replace m3 := (K.1 _ _ lg2).trans m3
        have B6 := keep (hb.out.trans (hb6.mono hb.out.size))
        have lg : g < w6.heap.size := Nat.lt_of_lt_of_le lg hb6.size
        have lg2 : g2 < w6.heap.size := Nat.lt_of_lt_of_le lg2 hb6.size
        have KW := bcell ((Below.refl w6.heap.size w6).alloc (Nat.le_refl _) (.cells #[.complex .f32 (wd single 3 (reflX L H p)) (wd single 3 p.y), .complex .f32 (reflS L H p) (wd single 3 p.v), .float .f32 (wd single 1 p.q), .float .f32 (wd single 2 p.m)] 50))
        replace k0 := (KW.1 _ _ lg).trans k0
        replace k1 := (KW.1 _ _ lg).trans k1
        replace k2 := (KW.1 _ _ lg).trans k2
        replace k3 := (KW.1 _ _ lg).trans k3
        replace m0 := (KW.1 _ _ lg2).trans m0
        replace m1 := (KW.1 _ _ lg2).trans m1
        replace m2 := (KW.1 _ _ lg2).trans m2
        replace m3 := (KW.1 _ _ lg2).trans m3
        have cW := Has.made w6 50 #[.complex .f32 (wd single 3 (reflX L H p)) (wd single 3 p.y), .complex .f32 (reflS L H p) (wd single 3 p.v), .float .f32 (wd single 1 p.q), .float .f32 (wd single 2 p.m)]
        have lp := cW.in_heap
        have p0 := cW.cells 0
        have p1 := cW.cells 1
        have p2 := cW.cells 2
        have p3 := cW.cells 3
        simp only [List.getElem?_toArray, List.getElem?_cons_zero, List.getElem?_cons_succ] at p0 p1 p2 p3
        have BW := keep (B6.out.alloc B6.out.size (.cells #[.complex .f32 (wd single 3 (reflX L H p)) (wd single 3 p.y), .complex .f32 (reflS L H p) (wd single 3 p.v), .float .f32 (wd single 1 p.q), .float .f32 (wd single 2 p.m)] 50))
        have lgW : g < (w6.alloc (.cells #[.complex .f32 (wd single 3 (reflX L H p)) (wd single 3 p.y), .complex .f32 (reflS L H p) (wd single 3 p.v), .float .f32 (wd single 1 p.q), .float .f32 (wd single 2 p.m)] 50)).heap.size := by rw [World.size_alloc]; omega
        have lg2W : g2 < (w6.alloc (.cells #[.complex .f32 (wd single 3 (reflX L H p)) (wd single 3 p.y), .complex .f32 (reflS L H p) (wd single 3 p.v), .float .f32 (wd single 1 p.q), .float .f32 (wd single 2 p.m)] 50)).heap.size := by rw [World.size_alloc]; omega
        clear K hb6 RT KW cW lg lg2 B6
        go_wp2_with fail
        unfold reflD at *
        simp only at *
        generalize w6.alloc (.cells #[.complex .f32 (wd single 3 (reflX L H p)) (wd single 3 p.y), .complex .f32 (reflS L H p) (wd single 3 p.v), .float .f32 (wd single 1 p.q), .float .f32 (wd single 2 p.m)] 50) = W at *
        generalize w6.heap.size = b at *
        have SP := keep (fun b1 b2 w h1 h2 => SameParticles_ok 0 0 (.slice (some ⟨b1, 0, none⟩) 1 1) (.slice (some ⟨b2, 0, none⟩) 1 1) [⟨wd single 3 (reflX L H p), wd single 3 p.y, reflS L H p, wd single 3 p.v, wd single 1 p.q, wd single 2 p.m⟩] w (own_one h1) (own_one h2) (fun q hq => by rw [List.mem_singleton.1 hq]; exact RN.out) (by simp))
        have oy := order_wd_self 3 p.y (by omega) (by have := HP.out.2.1; omega)
        have ov := order_wd_self 3 p.v (by omega) (by have := HP.out.2.2.2.1; omega)
        clear RN
        have q0 := cell_regrown p0
        have q1 := cell_regrown p1
        have q2 := cell_regrown p2
        have q3 := cell_regrown p3
        have r0 := cell_regrown k0
        have r1 := cell_regrown k1
        have s0 := cell_regrown m0
        have s1 := cell_regrown m1
        have s2 := cell_regrown m2
        have s3 := cell_regrown m3
        go_cut [159] (fun s wx => s = .bool false ∧ Below W.heap.size W wx)
        case first =>
          clear k0 k1 k2 k3 m0 m1 m2 m3 p0 p1 p2 p3
          refine wp_region_held (S := fun w' => ∃ p : Regrown, w' = grow (redrawn W p.d) p.os) (by kernel_rfl) ?_
          refine wpAnyH_seg (by kernel_rfl) (fun _ _ d _ _ h => by cases d <;> exact h) 33 4 0 _ _ _ ⟨⟨W.drawn + 1, #[]⟩, by rw [grow_empty]; rfl⟩ (by kernel_rfl) ?_
          simp only [List.drop_zero, List.take_succ_cons, List.take_zero]
          repeat (any_goals (go_big_quiet_step (fail)))
          refine wpQuiet_nil ?_
          intro w1 hw1
          obtain ⟨⟨d1, os1⟩, rfl⟩ := hw1
          refine wpAnyH_seg (by kernel_rfl) (fun _ _ d _ _ h => by cases d <;> exact h) 29 4 5 _ _ _ ⟨⟨d1, os1⟩, rfl⟩ (by kernel_rfl) ?_
          simp only [List.drop_succ_cons, List.drop_zero, List.take_succ_cons, List.take_zero]
          repeat (any_goals (go_big_quiet_step (fail)))
          refine wpQuiet_nil ?_
          intro w2 hw2
          obtain ⟨⟨d2, os2⟩, rfl⟩ := hw2
          have hb2 := below_regrown W d2 os2
          generalize grow (redrawn W d2) os2 = w2 at *
          have h1 := hb2.alloc hb2.size (.cells #[.complex .f32 (wd single 3 (reflX L H p)) (wd single 3 p.y), .complex .f32 (reflS L H p) (wd single 3 p.v), .float .f32 (wd single 1 p.q), .float .f32 (wd single 2 p.m)] 50)
          have h2 := h1.alloc h1.size (.cells #[.complex .f32 (wd single 3 (reflX L H p)) (wd single 3 p.y), .complex .f32 (reflS L H p) (wd single 3 p.v), .float .f32 (wd single 1 p.q), .float .f32 (wd single 2 p.m)] 50)
          have a1 := Has.made w2 50 #[.complex .f32 (wd single 3 (reflX L H p)) (wd single 3 p.y), .complex .f32 (reflS L H p) (wd single 3 p.v), .float .f32 (wd single 1 p.q), .float .f32 (wd single 2 p.m)]
          have a2 := has_at2 (w2.alloc (.cells #[.complex .f32 (wd single 3 (reflX L H p)) (wd single 3 p.y), .complex .f32 (reflS L H p) (wd single 3 p.v), .float .f32 (wd single 1 p.q), .float .f32 (wd single 2 p.m)] 50)) 50 #[.complex .f32 (wd single 3 (reflX L H p)) (wd single 3 p.y), .complex .f32 (reflS L H p) (wd single 3 p.v), .float .f32 (wd single 1 p.q), .float .f32 (wd single 2 p.m)] (w2.heap.size + 1) (by simp)
          replace a1 := keep (a1.beside (.cells #[.complex .f32 (wd single 3 (reflX L H p)) (wd single 3 p.y), .complex .f32 (reflS L H p) (wd single 3 p.v), .float .f32 (wd single 1 p.q), .float .f32 (wd single 2 p.m)] 50))
          replace a2 := keep a2
          replace h1 := keep h1
          replace h2 := keep h2
          refine wpAnyH_ready (rs := [4, 9]) (by kernel_rfl) (by simp) ?_
          refine AllReadyH.cons rfl (fun K hK => ?_) (AllReadyH.cons rfl (fun K hK => ?_) AllReadyH.nil)
          · go_simp
            refine hK.out _ _ (regrown_of_below h1.out) (fun _ => ?_)
            clear hK K
            refine wpAnyH_ready (rs := [9]) (by kernel_rfl) (by simp) ?_
            refine AllReadyH.cons rfl (fun K hK => ?_) AllReadyH.nil
            go_simp
            refine hK.out _ _ (regrown_of_below h2.out) (fun _ => ?_)
            clear hK K
            refine wpAnyH_ready (rs := [10]) (by kernel_rfl) (by simp) ?_
            refine AllReadyH.cons rfl (fun K hK => ?_) AllReadyH.nil
            go_simp
            refine (SP.out _ _ _ a1.out a2.out).mono ?_
            rintro e w3 ⟨rfl, hb3⟩
            refine hK.out _ _ (regrown_of_below (h2.out.trans (hb3.mono h2.out.size))) (fun hS3 => ?_)
            clear hK K
            refine wpAnyH_seg (by kernel_rfl) (fun _ _ d _ _ h => by cases d <;> exact h) 0 26 11 _ _ _ hS3 (by kernel_rfl) ?_
            clear hS3
            simp only [List.drop_succ_cons, List.drop_zero, List.take_succ_cons, List.take_zero]
            repeat (any_goals (go_big_quiet_step (fail)))
            refine wpQuiet_nil ?_
            intro w4 hw4
            obtain ⟨⟨d4, os4⟩, rfl⟩ := hw4
            refine wpAnyH_end (by kernel_rfl) ?_ _
            go_wp2_with fail
            go_meet
            exact ⟨rfl, below_regrown W d4 os4⟩
          · go_simp
            refine hK.out _ _ (regrown_of_below h1.out) (fun _ => ?_)
            clear hK K
            refine wpAnyH_ready (rs := [4]) (by kernel_rfl) (by simp) ?_
            refine AllReadyH.cons rfl (fun K hK => ?_) AllReadyH.nil
            go_simp
            refine hK.out _ _ (regrown_of_below h2.out) (fun _ => ?_)
            clear hK K
            refine wpAnyH_ready (rs := [10]) (by kernel_rfl) (by simp) ?_
            refine AllReadyH.cons rfl (fun K hK => ?_) AllReadyH.nil
            go_simp
            refine (SP.out _ _ _ a2.out a1.out).mono ?_
            rintro e w3 ⟨rfl, hb3⟩
            refine hK.out _ _ (regrown_of_below (h2.out.trans (hb3.mono h2.out.size))) (fun hS3 => ?_)
            clear hK K
            refine wpAnyH_seg (by kernel_rfl) (fun _ _ d _ _ h => by cases d <;> exact h) 0 26 11 _ _ _ hS3 (by kernel_rfl) ?_
            clear hS3
            simp only [List.drop_succ_cons, List.drop_zero, List.take_succ_cons, List.take_zero]
            repeat (any_goals (go_big_quiet_step (fail)))
            refine wpQuiet_nil ?_
            intro w4 hw4
            obtain ⟨⟨d4, os4⟩, rfl⟩ := hw4
            refine wpAnyH_end (by kernel_rfl) ?_ _
            go_wp2_with fail
            go_meet
            exact ⟨rfl, below_regrown W d4 os4⟩
        case rest =>
          obtain ⟨rfl, hbc⟩ := hcut
          have BC := keep (BW.out.trans (hbc.mono BW.out.size))
          replace k0 := (hbc.cell (p := ⟨g, i * 4, none⟩) lgW).trans k0
          replace k1 := (hbc.cell (p := ⟨g, i * 4 + 1, none⟩) lgW).trans k1
          replace k2 := (hbc.cell (p := ⟨g, i * 4 + 2, none⟩) lgW).trans k2
          replace k3 := (hbc.cell (p := ⟨g, i * 4 + 3, none⟩) lgW).trans k3
          replace p0 := (hbc.cell (p := ⟨b, 0, none⟩) lp).trans p0
          replace p1 := (hbc.cell (p := ⟨b, 1, none⟩) lp).trans p1
          replace p2 := (hbc.cell (p := ⟨b, 2, none⟩) lp).trans p2
          replace p3 := (hbc.cell (p := ⟨b, 3, none⟩) lp).trans p3
          replace q0 := cell_regrown p0
          replace q1 := cell_regrown p1
          replace q2 := cell_regrown p2
          replace q3 := cell_regrown p3
          replace r0 := cell_regrown k0
          replace r1 := cell_regrown k1
          have r2 := cell_regrown k2
          have r3 := cell_regrown k3
          have lb : b < wc.heap.size := Nat.lt_of_lt_of_le lp hbc.size
          clear s0 s1 s2 s3 m0 m1 m2 m3 hbc BW lp lgW lg2W oy ov SP k0 k1 k2 k3 p0 p1 p2 p3
          rcases side_cases L H HW.out p HP.out with ⟨o1, o2⟩ | ⟨o1, o2, o3⟩ | ⟨o1, o2, o3⟩
          · have ex : reflX L H p = 2 * L - p.x := by unfold reflX; rw [if_pos (by have := forder (k := 3) (a := p.x) (b := L) (by omega) (by have := HP.out.1; omega) (by have := HW.out.2.2; have := HW.out.1; have := HW.out.2.1; omega); rw [o2] at this; injection this with this; exact Int.compare_eq_lt.1 this.symm)]
            have es : reflS L H p = sp p.u := by unfold reflS; rw [o1, if_pos rfl]
            have bp := HP.out
            obtain ⟨⟨x0, x1⟩, _, ⟨u0, u1⟩, _⟩ := bp
            obtain ⟨b0, b1, b2⟩ := HW.out
            obtain ⟨rr, fm, fo⟩ := (sp_of p.u u0 u1).2.2.2.2
            have fm := frun fm
            have g1 := frun (fsub (k := 3) (a := 2 * L - p.x) (b := L) (by omega) (by omega) (by omega) (by omega))
            have g2f := frun (fsub (k := 3) (a := L) (b := p.x) (by omega) (by omega) (by omega) (by omega))
            rw [show 2 * L - p.x - (L) = L - p.x from by omega] at g1
            have og := order_wd_self 3 (L - p.x) (by omega) (by omega)
            rw [ex] at q0
            rw [es] at q1
            clear ex es x0 x1 u0 u1 b0 b1 b2 o1 q2 q3
            go_wp2_with fail
            refine wp_region_quiet_below (by as_aux_lemma => kernel_rfl) (by as_aux_lemma => kernel_rfl) ?_
            repeat (any_goals (go_big_quiet_step (fail)))
            refine wpQuiet_nil ?_
            intro w8 hw8
            obtain ⟨⟨d8, os8⟩, rfl⟩ := hw8
            have hb8 := below_regrown wc d8 os8
            generalize grow (redrawn wc d8) os8 = w8 at *
            have B8 := keep (BC.out.trans (hb8.mono BC.out.size))
            clear q0 q1 r0 r1 hb8
            go_wp2_with fail
            go_roundw
            case rel => exact ⟨i + 1, by omega, by go_num, B8⟩
            case measure => simp [intOf]; omega
          · have ex : reflX L H p = 2 * H - p.x := by unfold reflX; rw [if_neg (by have := forder (k := 3) (a := p.x) (b := L) (by omega) (by have := HP.out.1; omega) (by have := HW.out.2.2; have := HW.out.1; have := HW.out.2.1; omega); rw [o2] at this; injection this with this; have := Int.compare_eq_gt.1 this.symm; omega), if_pos (by have := forder (k := 3) (a := p.x) (b := H) (by omega) (by have := HP.out.1; omega) (by have := HW.out.2.2; have := HW.out.1; have := HW.out.2.1; omega); rw [o3] at this; injection this with this; have := Int.compare_eq_gt.1 this.symm; omega)]
            have es : reflS L H p = sp p.u := by unfold reflS; rw [o1, if_pos rfl]
            have bp := HP.out
            obtain ⟨⟨x0, x1⟩, _, ⟨u0, u1⟩, _⟩ := bp
            obtain ⟨b0, b1, b2⟩ := HW.out
            obtain ⟨rr, fm, fo⟩ := (sp_of p.u u0 u1).2.2.2.2
            have fm := frun fm
            have g1 := frun (fsub (k := 3) (a := H) (b := (2 * H - p.x)) (by omega) (by omega) (by omega) (by omega))
            have g2f := frun (fsub (k := 3) (a := p.x) (b := H) (by omega) (by omega) (by omega) (by omega))
            rw [show H - ((2 * H - p.x)) = p.x - H from by omega] at g1
            have og := order_wd_self 3 (p.x - H) (by omega) (by omega)
            rw [ex] at q0
            rw [es] at q1
            clear ex es x0 x1 u0 u1 b0 b1 b2 o1 q2 q3
            go_wp2_with fail
            refine wp_region_quiet_below (by as_aux_lemma => kernel_rfl) (by as_aux_lemma => kernel_rfl) ?_
            repeat (any_goals (go_big_quiet_step (fail)))
            refine wpQuiet_nil ?_
            intro w8 hw8
            obtain ⟨⟨d8, os8⟩, rfl⟩ := hw8
            have hb8 := below_regrown wc d8 os8
            generalize grow (redrawn wc d8) os8 = w8 at *
            have B8 := keep (BC.out.trans (hb8.mono BC.out.size))
            clear q0 q1 r0 r1 hb8
            go_wp2_with fail
            go_roundw
            case rel => exact ⟨i + 1, by omega, by go_num, B8⟩
            case measure => simp [intOf]; omega
          · have hno : ¬ p.x < L ∧ ¬ H < p.x := by
              unfold isOut at o1
              simpa using o1
            have ex : reflX L H p = p.x := by unfold reflX; rw [if_neg hno.1, if_neg hno.2]
            have es : reflS L H p = wd single 3 p.u := by unfold reflS; rw [o1, if_neg (by decide)]
            rw [ex] at q0
            rw [es] at q1
            have SP := keep (fun b1 b2 w h1 h2 => SameParticles_ok 0 0 (.slice (some ⟨b1, 0, none⟩) 1 1) (.slice (some ⟨b2, 0, none⟩) 1 1) [p.pd] w (own_one h1) (own_one h2) (fun q hq => by rw [List.mem_singleton.1 hq]; exact GP.num HP.out) (by simp))
            unfold GP.pd at SP
            clear ex es hno o1
            rcases o2 with o2 | o2 <;> rcases o3 with o3 | o3
            all_goals
              go_wp2_with fail
              clear o2 o3
              refine wp_region_held (S := fun w' => ∃ p : Regrown, w' = grow (redrawn wc p.d) p.os) (by kernel_rfl) ?_
              refine wpAnyH_seg (by kernel_rfl) (fun _ _ d _ _ h => by cases d <;> exact h) 8 1 0 _ _ _ ⟨⟨wc.drawn + 1, #[]⟩, by rw [grow_empty]; rfl⟩ (by kernel_rfl) ?_
              simp only [List.drop_zero, List.take_succ_cons, List.take_zero]
              repeat (any_goals (go_big_quiet_step (fail)))
              refine wpQuiet_nil ?_
              intro w1 hw1
              obtain ⟨⟨d1, os1⟩, rfl⟩ := hw1
              refine wpAnyH_seg (by kernel_rfl) (fun _ _ d _ _ h => by cases d <;> exact h) 4 4 2 _ _ _ ⟨⟨d1, os1⟩, rfl⟩ (by kernel_rfl) ?_
              simp only [List.drop_succ_cons, List.drop_zero, List.take_succ_cons, List.take_zero]
              repeat (any_goals (go_big_quiet_step (fail)))
              refine wpQuiet_nil ?_
              intro w2 hw2
              obtain ⟨⟨d2, os2⟩, rfl⟩ := hw2
              have hb2 := below_regrown wc d2 os2
              generalize grow (redrawn wc d2) os2 = w2 at *
              clear q0 q1 q2 q3 r0 r1 r2 r3
              have h1 := hb2.alloc hb2.size (.cells #[.complex .f32 (wd single 3 p.x) (wd single 3 p.y), .complex .f32 (wd single 3 p.u) (wd single 3 p.v), .float .f32 (wd single 1 p.q), .float .f32 (wd single 2 p.m)] 50)
              have h2 := h1.alloc h1.size (.cells #[.complex .f32 (wd single 3 p.x) (wd single 3 p.y), .complex .f32 (wd single 3 p.u) (wd single 3 p.v), .float .f32 (wd single 1 p.q), .float .f32 (wd single 2 p.m)] 50)
              have a1 := Has.made w2 50 #[.complex .f32 (wd single 3 p.x) (wd single 3 p.y), .complex .f32 (wd single 3 p.u) (wd single 3 p.v), .float .f32 (wd single 1 p.q), .float .f32 (wd single 2 p.m)]
              have a2 := has_at2 (w2.alloc (.cells #[.complex .f32 (wd single 3 p.x) (wd single 3 p.y), .complex .f32 (wd single 3 p.u) (wd single 3 p.v), .float .f32 (wd single 1 p.q), .float .f32 (wd single 2 p.m)] 50)) 50 #[.complex .f32 (wd single 3 p.x) (wd single 3 p.y), .complex .f32 (wd single 3 p.u) (wd single 3 p.v), .float .f32 (wd single 1 p.q), .float .f32 (wd single 2 p.m)] (w2.heap.size + 1) (by simp)
              replace a1 := keep (a1.beside (.cells #[.complex .f32 (wd single 3 p.x) (wd single 3 p.y), .complex .f32 (wd single 3 p.u) (wd single 3 p.v), .float .f32 (wd single 1 p.q), .float .f32 (wd single 2 p.m)] 50))
              replace a2 := keep a2
              replace h1 := keep h1
              replace h2 := keep h2
              refine wpAnyH_ready (rs := [1, 6]) (by kernel_rfl) (by simp) ?_
              refine AllReadyH.cons rfl (fun K hK => ?_) (AllReadyH.cons rfl (fun K hK => ?_) AllReadyH.nil)
              · go_simp
                refine hK.out _ _ (regrown_of_below h1.out) (fun _ => ?_)
                clear hK K
                refine wpAnyH_ready (rs := [6]) (by kernel_rfl) (by simp) ?_
                refine AllReadyH.cons rfl (fun K hK => ?_) AllReadyH.nil
                go_simp
                refine hK.out _ _ (regrown_of_below h2.out) (fun _ => ?_)
                clear hK K
                refine wpAnyH_ready (rs := [7]) (by kernel_rfl) (by simp) ?_
                refine AllReadyH.cons rfl (fun K hK => ?_) AllReadyH.nil
                go_simp
                refine (SP.out _ _ _ a1.out a2.out).mono ?_
                rintro e w3 ⟨rfl, hb3⟩
                refine hK.out _ _ (regrown_of_below (h2.out.trans (hb3.mono h2.out.size))) (fun hS3 => ?_)
                clear hK K
                refine wpAnyH_seg (by kernel_rfl) (fun _ _ d _ _ h => by cases d <;> exact h) 0 1 8 _ _ _ hS3 (by kernel_rfl) ?_
                clear hS3
                simp only [List.drop_succ_cons, List.drop_zero, List.take_succ_cons, List.take_zero]
                repeat (any_goals (go_big_quiet_step (fail)))
                refine wpQuiet_nil ?_
                intro w4 hw4
                obtain ⟨⟨d4, os4⟩, rfl⟩ := hw4
                refine wpAnyH_end (by kernel_rfl) ?_ _
                have hb8 := below_regrown wc d4 os4
                generalize grow (redrawn wc d4) os4 = w8 at *
                have B8 := keep (BC.out.trans (hb8.mono BC.out.size))
                clear hb8 h1 h2 a1 a2 hb2
                go_wp2_with fail
                go_roundw
                case rel => exact ⟨i + 1, by omega, by go_num, B8⟩
                case measure => simp [intOf]; omega
              · go_simp
                refine hK.out _ _ (regrown_of_below h1.out) (fun _ => ?_)
                clear hK K
                refine wpAnyH_ready (rs := [1]) (by kernel_rfl) (by simp) ?_
                refine AllReadyH.cons rfl (fun K hK => ?_) AllReadyH.nil
                go_simp
                refine hK.out _ _ (regrown_of_below h2.out) (fun _ => ?_)
                clear hK K
                refine wpAnyH_ready (rs := [7]) (by kernel_rfl) (by simp) ?_
                refine AllReadyH.cons rfl (fun K hK => ?_) AllReadyH.nil
                go_simp
                refine (SP.out _ _ _ a2.out a1.out).mono ?_
                rintro e w3 ⟨rfl, hb3⟩
                refine hK.out _ _ (regrown_of_below (h2.out.trans (hb3.mono h2.out.size))) (fun hS3 => ?_)
                clear hK K
                refine wpAnyH_seg (by kernel_rfl) (fun _ _ d _ _ h => by cases d <;> exact h) 0 1 8 _ _ _ hS3 (by kernel_rfl) ?_
                clear hS3
                simp only [List.drop_succ_cons, List.drop_zero, List.take_succ_cons, List.take_zero]
                repeat (any_goals (go_big_quiet_step (fail)))
                refine wpQuiet_nil ?_
                intro w4 hw4
                obtain ⟨⟨d4, os4⟩, rfl⟩ := hw4
                refine wpAnyH_end (by kernel_rfl) ?_ _
                have hb8 := below_regrown wc d4 os4
                generalize grow (redrawn wc d4) os4 = w8 at *
                have B8 := keep (BC.out.trans (hb8.mono BC.out.size))
                clear hb8 h1 h2 a1 a2 hb2
                go_wp2_with fail
                go_roundw
                case rel => exact ⟨i + 1, by omega, by go_num, B8⟩
                case measure => simp [intOf]; omega
      · obtain rfl : i = gs.length := by omega
        go_wp2_with fail
        go_ret
        exact ⟨rfl, B5.out.trans (hb.out.mono B5.out.size)⟩
end Go.Proofs.Ytmnpijhnfdiomaa
