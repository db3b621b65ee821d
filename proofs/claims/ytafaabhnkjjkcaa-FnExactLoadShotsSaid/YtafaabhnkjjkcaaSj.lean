/- Contract: the clouds at the beginning of a text, by the reference. -/
import Derived.Test.YtafaabhnkjjkcaaSi0
import Derived.Outline
namespace Go.Proofs.Ytafaabhnkjjkcaa
open Go.RowKit Go.Sort

theorem OwnS.shots {w : World} {B g i : Nat} {v : Value} {xs : List (CD × Value)} {cs : Array Value} (h : OwnS w B v xs) (hg : Has w g 43 cs) (u : Value) : OwnS (w.setCell ⟨g, i, none⟩ u) B v xs :=
  ⟨own_set h.row (own_ne h.row hg (by decide)) u, fun j hj => own_set (h.each j hj) (own_ne (h.each j hj) hg (by decide)) u, h.apart⟩
theorem OwnS.empty (w : World) (b : Nat) (hb : b ≤ w.heap.size) : OwnS (w.alloc (.cells #[] 34)) b (.slice (some ⟨w.heap.size, 0, none⟩) 0 0) [] :=
  ⟨World.ownsRow_made w (base := b) (e := 34) (size := 5) #[] 0 hb (by unfold maxLen; omega) rfl, (fun i h => by cases h), (fun i j h => by cases h)⟩
theorem RecRes.of2 {s : ByteArray} {w w' : World} {a : Option Addr} {b k c f p : Nat} {xs : List (CD × Value)} (hr : recS s 8 0 = (xs.map (·.1) ++ (recS s f p).1, (recS s f p).2)) (hn : recS s f p = ([], p)) (hb0 : w.heap.size ≤ b) (ho : OwnS w' b (.slice a k c) xs) (hb : Below w.heap.size w w') :
    RecRes s w (.returned (.tuple #[.agg #[.slice a k c], .int .i64 p])) w' := by
  rw [hn, List.append_nil] at hr
  exact ⟨a, k, c, xs, by rw [hr], ho.mono hb0, by rw [hr], hb⟩

theorem frame_re (s : ByteArray) (p : Nat) (hg : goodAt s p = true) (hS : s.size ≤ 2000000) (g B : Nat) (v : Value) (w : World)
    (hc : ∀ i, w.cell? ⟨g, i, none⟩ = #[Value.int .i64 (cdAt s p).wd, .int .i64 (cdAt s p).hg, v, .float .f32 (cdAt s p).mg, .float .f32 (cdAt s p).bk][i]?) (ho : w.ownsRow B 25 4 v (cdAt s p).ps.length (psCells (cdAt s p).ps)) (d : Nat) (os : Array Obj) :
    Calls Try.prog 75 #[.string (s.extract 0 p), .pointer (some ⟨g, 0, none⟩)] (grow (redrawn w d) os) fun e w' => e = .returned (.string (frameB (s.extract 0 p) (s.extract p (endAt s p)))) ∧ ∃ q : Regrown, w' = grow (redrawn w q.d) q.os := by
  obtain ⟨g1, g2, g3, g4, g5, g6⟩ := good_facts s p hg
  have hcl := cloud_at s p hg
  have hz := extract_size s 0 p (by unfold endAt at g2; omega)
  have hz2 := extract_size s p (endAt s p) g2
  have hr := below_regrown w d os
  refine Calls.regrown_of (l10Frame_any (s.extract 0 p) g 0 B v (cdAt s p).ps (cdAt s p).wd (cdAt s p).hg (cdAt s p).mg (cdAt s p).bk _ (by unfold endAt at g2; omega) (byteAt_lt s _) (byteAt_lt s _) (okN_at s _ g5) (okN_at s _ g6) (okN_ps s p _ g4) (by show (psAt s p (nAt s p)).length ≤ 48; rw [psAt_length]; exact g3)
    (cell_regrown (hc 0) d os) (cell_regrown (hc 1) d os) (cell_regrown (hc 2) d os) (cell_regrown (hc 3) d os) (cell_regrown (hc 4) d os) (owns_below ho hr) (s.extract p (endAt s p)) hcl.1 (by rw [hz2]; unfold endAt; omega))

set_option maxHeartbeats 8000000 in
set_option maxRecDepth 20000 in
theorem l10Recover_any (s : ByteArray) (w : World) (hS : s.size ≤ 2000000) : Calls Try.prog 48 #[.string s] w (RecRes s w) := by
  have HL := keep (fun p w hp => l10Begin_all s p w hS hp)
  have p0 := Has.made w 43 #[.slice none 0 0]
  have p1 := Has.made ((w.alloc (.cells #[.slice none 0 0] 43)).alloc (.cells #[] 34)) 43 #[.slice (some ⟨w.heap.size + 1, 0, none⟩) 0 0]
  have po := OwnS.empty (w.alloc (.cells #[.slice none 0 0] 43)) (w.heap.size + 1) (by simp)
  simp only [World.size_alloc] at p1 po
  have P0 := keep ((p0.beside (.cells #[] 34)).beside (.cells #[.slice (some ⟨w.heap.size + 1, 0, none⟩) 0 0] 43))
  have P1 := keep p1
  have PO := keep (po.alloc (.cells #[.slice (some ⟨w.heap.size + 1, 0, none⟩) 0 0] 43))
  clear p0 p1 po
  go_enter Try.func48, Try.ntmps48
  go_wp2_with fail
  go_loopw [5] (fun t wr => ∃ (p k c : Nat) (a : Option Addr) (xs : List (CD × Value)), t = .int .i64 p ∧ p ≤ s.size ∧ k ≤ 8 ∧ Kept (k = xs.length) ∧ Has wr (w.heap.size + 2) 43 #[.slice a k c] ∧ Has wr w.heap.size 43 #[.slice none 0 0] ∧ Kept (OwnS wr (w.heap.size + 1) (.slice a k c) xs) ∧ Kept (recS s 8 0 = (xs.map (·.1) ++ (recS s (8 - k) p).1, (recS s (8 - k) p).2)) ∧ Below w.heap.size w wr) (fun t _ => s.size + 1 - (intOf t).toNat)
  case atStart => exact ⟨0, 0, 0, _, [], rfl, Nat.zero_le _, by omega, keep rfl, P1.out, P0.out, keep PO.out, keep rfl, by go_grown⟩
  case round =>
    clear P0 P1 PO
    obtain ⟨p, k, c, a, xs, rfl, hp, hk, hkx, h1, h0, ho, hrec, hbr⟩ := hrel
    have c1 := h1.cells
    have c0 := h0.cells
    have f0 := h0.free
    by_cases hlt : k < 8
    case neg =>
      obtain rfl : k = 8 := by omega
      go_wp2_with fail
      have q := h0.written 0 (.slice a 8 c)
      have qc := q.cells
      exact bodyPost_ret (v := .tuple #[.agg #[.slice a 8 c], .int .i64 p]) (by simp [results, Try.results48, go_sem, qc]) rfl (RecRes.of2 hrec.out rfl (Nat.le_succ _) (ho.out.shots h0 _) (hbr.setCell (Nat.le_refl _) _))
    case pos =>
      cases hg : goodAt s p
      case false =>
        have HG := keep hg
        have hmore : more s p = false := by unfold more; rw [hg]; rfl
        have HM := keep hmore
        clear hg hmore
        go_wp2_with fail
        refine (HL.out p _ hp).mono ?_
        rintro e w1 hl
        obtain ⟨wd, hg, a1, n1, k1, mg, bk, z, rfl, hb1⟩ := hl.2 HG.out
        clear hl
        unfold cloudV
        have B1 := keep (hbr.trans (hb1.mono hbr.size))
        have Z1 := hb1.size
        have P1 := keep ((h1.after hb1).beside (.cells #[.int .i64 wd, .int .i64 hg, .slice a1 n1 k1, .float .f32 mg, .float .f32 bk] 34))
        have P0 := keep ((h0.after hb1).beside (.cells #[.int .i64 wd, .int .i64 hg, .slice a1 n1 k1, .float .f32 mg, .float .f32 bk] 34))
        have O1 := keep ((ho.out.below hb1).alloc (.cells #[.int .i64 wd, .int .i64 hg, .slice a1 n1 k1, .float .f32 mg, .float .f32 bk] 34))
        clear c1 c0 f0 hb1
        go_wp2_with fail
        refine wp_region_quiet_below (by as_aux_lemma => kernel_rfl) (by as_aux_lemma => kernel_rfl) ?_
        repeat (any_goals (go_big_quiet_step (fail)))
        refine wpQuiet_nil ?_
        intro w2 hw2
        obtain ⟨⟨d2, os2⟩, rfl⟩ := hw2
        have hb2 := below_regrown (w1.alloc (.cells #[.int .i64 wd, .int .i64 hg, .slice a1 n1 k1, .float .f32 mg, .float .f32 bk] 34)) d2 os2
        generalize grow (redrawn (w1.alloc (.cells #[.int .i64 wd, .int .i64 hg, .slice a1 n1 k1, .float .f32 mg, .float .f32 bk] 34)) d2) os2 = w2 at *
        have q1 := P1.out.after hb2
        have q0 := P0.out.after hb2
        have O2 := keep (O1.out.below hb2)
        have B2 := keep ((B1.out.alloc B1.out.size (.cells #[.int .i64 wd, .int .i64 hg, .slice a1 n1 k1, .float .f32 mg, .float .f32 bk] 34)).trans (hb2.mono (by have := B1.out.size; simp; omega)))
        have c1 := q1.cells
        have c0 := q0.cells
        have f0 := q0.free
        clear hb2
        go_wp2_with fail
        have q := q0.written 0 (.slice a k c)
        have qc := q.cells
        exact bodyPost_ret (v := .tuple #[.agg #[.slice a k c], .int .i64 p]) (by simp [results, Try.results48, go_sem, qc]) rfl (RecRes.of2 hrec.out (recS_no s _ p HM.out) (Nat.le_succ _) (O2.out.shots q0 _) (B2.out.setCell (Nat.le_refl _) _))
      case true =>
        have HG := keep hg
        obtain ⟨g1, g2, g3, g4, g5, g6⟩ := good_facts s p hg
        obtain ⟨E, he⟩ : ∃ E : Nat, endAt s p = E := ⟨_, rfl⟩
        have he2 : p + 15 + 24 * nAt s p = E := he
        have hes : E ≤ s.size := by omega
        have HE := keep he2
        have HE2 := keep he
        have hmore : more s p = ckOk s E := by unfold more; rw [hg, he]; rfl
        have hsI : (E : Int) ≤ (s.size : Int) := by omega
        have hpE : p + 15 ≤ E := by omega
        have hpI : (p : Int) ≤ (E : Int) + 2 := by omega
        have HB := keep ho.out.blocks
        by_cases hfit : E + 2 ≤ s.size
        case neg =>
          have hd : decide ((s.size : Int) < (E : Int) + 2) = true := by simp; omega
          have hk : ckOk s E = false := by unfold ckOk; rw [show decide (E + 2 ≤ s.size) = false by simpa using hfit]; rfl
          rw [hk] at hmore
          have HM := keep hmore
          clear hg g1 g2 g3 g4 g5 g6 he he2 hk hmore hfit
          go_wp2_with fail
          refine (HL.out p _ hp).mono ?_
          rintro e w1 hl
          obtain ⟨a1, n1, k1, rfl, o1, hb1⟩ := hl.1 HG.out
          clear hl
          rw [HE.out]
          unfold cloudV
          have FR := keep (fun g v w hc ho d os => frame_re s p HG.out hS g wr.heap.size v w hc ho d os)
          rw [HE2.out] at FR
          have ECD := keep (show (cdAt s p) = ⟨byteAt s (p + 4), byteAt s (p + 5), psAt s p (nAt s p), numAt s (p + 6), numAt s (p + 10)⟩ from rfl)
          generalize hcd : cdAt s p = cd at *
          have HCD := keep hcd
          have q1 : byteAt s (p + 4) = cd.wd := by rw [ECD.out]
          have q2 : byteAt s (p + 5) = cd.hg := by rw [ECD.out]
          have q3 : numAt s (p + 6) = cd.mg := by rw [ECD.out]
          have q4 : numAt s (p + 10) = cd.bk := by rw [ECD.out]
          have q5 : psAt s p (nAt s p) = cd.ps := by rw [ECD.out]
          rw [q5] at o1
          rw [q1, q2, q3, q4]
          clear hcd q1 q2 q3 q4 q5
          have B1 := keep (hbr.trans (hb1.mono hbr.size))
          have Z1 := hb1.size
          have P1 := keep ((h1.after hb1).beside (.cells #[.int .i64 cd.wd, .int .i64 cd.hg, .slice a1 n1 k1, .float .f32 cd.mg, .float .f32 cd.bk] 34))
          have P0 := keep ((h0.after hb1).beside (.cells #[.int .i64 cd.wd, .int .i64 cd.hg, .slice a1 n1 k1, .float .f32 cd.mg, .float .f32 cd.bk] 34))
          have O1 := keep ((ho.out.below hb1).alloc (.cells #[.int .i64 cd.wd, .int .i64 cd.hg, .slice a1 n1 k1, .float .f32 cd.mg, .float .f32 cd.bk] 34))
          have U1 := keep (o1.alloc (.cells #[.int .i64 cd.wd, .int .i64 cd.hg, .slice a1 n1 k1, .float .f32 cd.mg, .float .f32 cd.bk] 34))
          have PC := keep (Has.made w1 34 #[.int .i64 cd.wd, .int .i64 cd.hg, .slice a1 n1 k1, .float .f32 cd.mg, .float .f32 cd.bk])
          have F1 := keep (FR.out w1.heap.size (.slice a1 n1 k1) (w1.alloc (.cells #[.int .i64 cd.wd, .int .i64 cd.hg, .slice a1 n1 k1, .float .f32 cd.mg, .float .f32 cd.bk] 34)) PC.out.cells U1.out)
          clear c1 c0 f0 hb1 o1
          go_wp2_with fail
          refine wp_region_quiet_below (by as_aux_lemma => kernel_rfl) (by as_aux_lemma => kernel_rfl) ?_
          repeat (any_goals (go_big_quiet_step (with_reducible exact F1.out _ _)))
          refine wpQuiet_nil ?_
          intro w2 hw2
          obtain ⟨⟨d2, os2⟩, rfl⟩ := hw2
          have hb2 := below_regrown (w1.alloc (.cells #[.int .i64 cd.wd, .int .i64 cd.hg, .slice a1 n1 k1, .float .f32 cd.mg, .float .f32 cd.bk] 34)) d2 os2
          generalize grow (redrawn (w1.alloc (.cells #[.int .i64 cd.wd, .int .i64 cd.hg, .slice a1 n1 k1, .float .f32 cd.mg, .float .f32 cd.bk] 34)) d2) os2 = w2 at *
          have q1 := P1.out.after hb2
          have q0 := P0.out.after hb2
          have O2 := keep (O1.out.below hb2)
          have B2 := keep ((B1.out.alloc B1.out.size (.cells #[.int .i64 cd.wd, .int .i64 cd.hg, .slice a1 n1 k1, .float .f32 cd.mg, .float .f32 cd.bk] 34)).trans (hb2.mono (by have := B1.out.size; simp; omega)))
          have c1 := q1.cells
          have c0 := q0.cells
          have f0 := q0.free
          clear hb2
          go_wp2_with fail
          have q := q0.written 0 (.slice a k c)
          have qc := q.cells
          exact bodyPost_ret (v := .tuple #[.agg #[.slice a k c], .int .i64 p]) (by simp [results, Try.results48, go_sem, qc]) rfl (RecRes.of2 hrec.out (recS_no s _ p HM.out) (Nat.le_succ _) (O2.out.shots q0 _) (B2.out.setCell (Nat.le_refl _) _))
        case pos =>
          have hd : decide ((s.size : Int) < (E : Int) + 2) = false := by simp; omega
          have hfI : (E : Int) + 2 ≤ (s.size : Int) := by omega
          have hfr := frame_eq s p (by rw [he]; exact hfit)
          rw [he] at hfr
          cases hk : ckOk s E
          case false =>
            rw [hk] at hfr hmore
            have hfn : (!(frameB (s.extract 0 p) (s.extract p E)).toList == (s.extract p (E + 2)).toList) = true := by rw [hfr]; rfl
            have HM := keep hmore
            clear hg g1 g2 g3 g4 g5 g6 he he2 hk hmore hfr
            go_wp2_with fail
            refine (HL.out p _ hp).mono ?_
            rintro e w1 hl
            obtain ⟨a1, n1, k1, rfl, o1, hb1⟩ := hl.1 HG.out
            clear hl
            rw [HE.out]
            unfold cloudV
            have FR := keep (fun g v w hc ho d os => frame_re s p HG.out hS g wr.heap.size v w hc ho d os)
            rw [HE2.out] at FR
            have ECD := keep (show (cdAt s p) = ⟨byteAt s (p + 4), byteAt s (p + 5), psAt s p (nAt s p), numAt s (p + 6), numAt s (p + 10)⟩ from rfl)
            generalize hcd : cdAt s p = cd at *
            have HCD := keep hcd
            have q1 : byteAt s (p + 4) = cd.wd := by rw [ECD.out]
            have q2 : byteAt s (p + 5) = cd.hg := by rw [ECD.out]
            have q3 : numAt s (p + 6) = cd.mg := by rw [ECD.out]
            have q4 : numAt s (p + 10) = cd.bk := by rw [ECD.out]
            have q5 : psAt s p (nAt s p) = cd.ps := by rw [ECD.out]
            rw [q5] at o1
            rw [q1, q2, q3, q4]
            clear hcd q1 q2 q3 q4 q5
            have B1 := keep (hbr.trans (hb1.mono hbr.size))
            have Z1 := hb1.size
            have P1 := keep ((h1.after hb1).beside (.cells #[.int .i64 cd.wd, .int .i64 cd.hg, .slice a1 n1 k1, .float .f32 cd.mg, .float .f32 cd.bk] 34))
            have P0 := keep ((h0.after hb1).beside (.cells #[.int .i64 cd.wd, .int .i64 cd.hg, .slice a1 n1 k1, .float .f32 cd.mg, .float .f32 cd.bk] 34))
            have O1 := keep ((ho.out.below hb1).alloc (.cells #[.int .i64 cd.wd, .int .i64 cd.hg, .slice a1 n1 k1, .float .f32 cd.mg, .float .f32 cd.bk] 34))
            have U1 := keep (o1.alloc (.cells #[.int .i64 cd.wd, .int .i64 cd.hg, .slice a1 n1 k1, .float .f32 cd.mg, .float .f32 cd.bk] 34))
            have PC := keep (Has.made w1 34 #[.int .i64 cd.wd, .int .i64 cd.hg, .slice a1 n1 k1, .float .f32 cd.mg, .float .f32 cd.bk])
            have F1 := keep (FR.out w1.heap.size (.slice a1 n1 k1) (w1.alloc (.cells #[.int .i64 cd.wd, .int .i64 cd.hg, .slice a1 n1 k1, .float .f32 cd.mg, .float .f32 cd.bk] 34)) PC.out.cells U1.out)
            clear c1 c0 f0 hb1 o1
            go_wp2_with fail
            refine wp_region_quiet_below (by as_aux_lemma => kernel_rfl) (by as_aux_lemma => kernel_rfl) ?_
            repeat (any_goals (go_big_quiet_step (with_reducible exact F1.out _ _)))
            refine wpQuiet_nil ?_
            intro w2 hw2
            obtain ⟨⟨d2, os2⟩, rfl⟩ := hw2
            have hb2 := below_regrown (w1.alloc (.cells #[.int .i64 cd.wd, .int .i64 cd.hg, .slice a1 n1 k1, .float .f32 cd.mg, .float .f32 cd.bk] 34)) d2 os2
            generalize grow (redrawn (w1.alloc (.cells #[.int .i64 cd.wd, .int .i64 cd.hg, .slice a1 n1 k1, .float .f32 cd.mg, .float .f32 cd.bk] 34)) d2) os2 = w2 at *
            have q1 := P1.out.after hb2
            have q0 := P0.out.after hb2
            have O2 := keep (O1.out.below hb2)
            have B2 := keep ((B1.out.alloc B1.out.size (.cells #[.int .i64 cd.wd, .int .i64 cd.hg, .slice a1 n1 k1, .float .f32 cd.mg, .float .f32 cd.bk] 34)).trans (hb2.mono (by have := B1.out.size; simp; omega)))
            have c1 := q1.cells
            have c0 := q0.cells
            have f0 := q0.free
            clear hb2
            go_wp2_with fail
            have q := q0.written 0 (.slice a k c)
            have qc := q.cells
            exact bodyPost_ret (v := .tuple #[.agg #[.slice a k c], .int .i64 p]) (by simp [results, Try.results48, go_sem, qc]) rfl (RecRes.of2 hrec.out (recS_no s _ p HM.out) (Nat.le_succ _) (O2.out.shots q0 _) (B2.out.setCell (Nat.le_refl _) _))
          case true =>
            rw [hk] at hfr hmore
            have hfn : (!(frameB (s.extract 0 p) (s.extract p E)).toList == (s.extract p (E + 2)).toList) = false := by rw [hfr]; rfl
            have HM := keep hmore
            clear hg g1 g2 g3 g4 g5 g6 he he2 hk hmore hfr
            obtain ⟨i0, hi, hz0, hz1, hz2⟩ := info_parts infoCloud
            have HI := keep hi
            have HZ0 := keep hz0
            have HZ1 := keep hz1
            have HZ2 := keep hz2
            clear hi hz0 hz1 hz2
            go_wp2_with fail
            refine (HL.out p _ hp).mono ?_
            rintro e w1 hl
            obtain ⟨a1, n1, k1, rfl, o1, hb1⟩ := hl.1 HG.out
            clear hl
            rw [HE.out]
            unfold cloudV
            have FR := keep (fun g v w hc ho d os => frame_re s p HG.out hS g wr.heap.size v w hc ho d os)
            rw [HE2.out] at FR
            have ECD := keep (show (cdAt s p) = ⟨byteAt s (p + 4), byteAt s (p + 5), psAt s p (nAt s p), numAt s (p + 6), numAt s (p + 10)⟩ from rfl)
            generalize hcd : cdAt s p = cd at *
            have HCD := keep hcd
            have q1 : byteAt s (p + 4) = cd.wd := by rw [ECD.out]
            have q2 : byteAt s (p + 5) = cd.hg := by rw [ECD.out]
            have q3 : numAt s (p + 6) = cd.mg := by rw [ECD.out]
            have q4 : numAt s (p + 10) = cd.bk := by rw [ECD.out]
            have q5 : psAt s p (nAt s p) = cd.ps := by rw [ECD.out]
            rw [q5] at o1
            rw [q1, q2, q3, q4]
            clear hcd q1 q2 q3 q4 q5
            have B1 := keep (hbr.trans (hb1.mono hbr.size))
            have Z1 := hb1.size
            have P1 := keep ((h1.after hb1).beside (.cells #[.int .i64 cd.wd, .int .i64 cd.hg, .slice a1 n1 k1, .float .f32 cd.mg, .float .f32 cd.bk] 34))
            have P0 := keep ((h0.after hb1).beside (.cells #[.int .i64 cd.wd, .int .i64 cd.hg, .slice a1 n1 k1, .float .f32 cd.mg, .float .f32 cd.bk] 34))
            have O1 := keep ((ho.out.below hb1).alloc (.cells #[.int .i64 cd.wd, .int .i64 cd.hg, .slice a1 n1 k1, .float .f32 cd.mg, .float .f32 cd.bk] 34))
            have U1 := keep (o1.alloc (.cells #[.int .i64 cd.wd, .int .i64 cd.hg, .slice a1 n1 k1, .float .f32 cd.mg, .float .f32 cd.bk] 34))
            have PC := keep (Has.made w1 34 #[.int .i64 cd.wd, .int .i64 cd.hg, .slice a1 n1 k1, .float .f32 cd.mg, .float .f32 cd.bk])
            have F1 := keep (FR.out w1.heap.size (.slice a1 n1 k1) (w1.alloc (.cells #[.int .i64 cd.wd, .int .i64 cd.hg, .slice a1 n1 k1, .float .f32 cd.mg, .float .f32 cd.bk] 34)) PC.out.cells U1.out)
            clear c1 c0 f0 hb1 o1
            go_wp2_with fail
            refine wp_region_quiet_below (by as_aux_lemma => kernel_rfl) (by as_aux_lemma => kernel_rfl) ?_
            repeat (any_goals (go_big_quiet_step (with_reducible exact F1.out _ _)))
            refine wpQuiet_nil ?_
            intro w2 hw2
            obtain ⟨⟨d2, os2⟩, rfl⟩ := hw2
            have hb2 := below_regrown (w1.alloc (.cells #[.int .i64 cd.wd, .int .i64 cd.hg, .slice a1 n1 k1, .float .f32 cd.mg, .float .f32 cd.bk] 34)) d2 os2
            generalize grow (redrawn (w1.alloc (.cells #[.int .i64 cd.wd, .int .i64 cd.hg, .slice a1 n1 k1, .float .f32 cd.mg, .float .f32 cd.bk] 34)) d2) os2 = w2 at *
            have q1 := P1.out.after hb2
            have q0 := P0.out.after hb2
            have qC := PC.out.after hb2
            have O2 := keep (O1.out.below hb2)
            have U2 := keep (owns_below U1.out hb2)
            have hrow := O2.out.row
            rw [← hkx.out] at hrow
            have HR := keep hrow
            clear hrow
            have B2 := keep ((B1.out.alloc B1.out.size (.cells #[.int .i64 cd.wd, .int .i64 cd.hg, .slice a1 n1 k1, .float .f32 cd.mg, .float .f32 cd.bk] 34)).trans (hb2.mono (by have := B1.out.size; simp; omega)))
            have c1 := q1.cells
            have cC := qC.cells
            have Q1 := keep q1
            have Q0 := keep q0
            have ZR := hbr.size
            have ZH := h1.in_heap
            clear hb2 q1 q0 qC h1 h0
            go_wp2_with (at_builtin; go_loud (refine wpList_append_own_at _ rfl _ _ 41 rfl (w.heap.size + 1) 34 i0 _ 5 48 Try.underlying41 HI.out HZ0.out HZ1.out HZ2.out rfl (by decide) (.slice a k c) k (cCells xs) rfl (HR.out.alloc _) ⟨w2.heap.size, 0, none⟩ 1 1 (cd.vals (.slice a1 n1 k1)) rfl rfl ?c1 ?c2 ?c3 ?c4 ?c5 ?_))
            case c1 =>
              intro j u hj
              exact five_new (Has.made w2 34 #[.int .i64 cd.wd, .int .i64 cd.hg, .slice a1 n1 k1, .float .f32 cd.mg, .float .f32 cd.bk]) j u hj
            case c2 =>
              intro u hu
              simp only [CD.vals, List.mem_cons, List.not_mem_nil, or_false] at hu
              rcases hu with rfl | rfl | rfl | rfl | rfl <;> rfl
            case c3 => unfold maxLen; omega
            case c4 => omega
            case c5 => have := B2.out.size; have := Q1.out.in_heap; simp only [World.size_alloc]; omega
            intro v' w4 hown' hgrow _ hat
            obtain ⟨g', cap', rfl, hB', hlt'⟩ := hown'.form (by omega)
            have hL := O2.out.row.lt
            have z1 := Q1.out.in_heap
            have z2 := B2.out.size
            have p1 := Has.grown (Q1.out.beside (.cells #[.int .i64 cd.wd, .int .i64 cd.hg, .slice a1 n1 k1, .float .f32 cd.mg, .float .f32 cd.bk] 34)) hgrow (own_ne O2.out.row Q1.out (by decide))
            have p0 := Has.grown (Q0.out.beside (.cells #[.int .i64 cd.wd, .int .i64 cd.hg, .slice a1 n1 k1, .float .f32 cd.mg, .float .f32 cd.bk] 34)) hgrow (own_ne O2.out.row Q0.out (by decide))
            have b4 := (B2.out.alloc z2 (.cells #[.int .i64 cd.wd, .int .i64 cd.hg, .slice a1 n1 k1, .float .f32 cd.mg, .float .f32 cd.bk] 34)).grown hgrow (by simp; omega) (fun b e => by have := hL b e; omega)
            have OW := keep (OwnS.snoc (O2.out.alloc (.cells #[.int .i64 cd.wd, .int .i64 cd.hg, .slice a1 n1 k1, .float .f32 cd.mg, .float .f32 cd.bk] 34)) (U2.out.alloc (.cells #[.int .i64 cd.wd, .int .i64 cd.hg, .slice a1 n1 k1, .float .f32 cd.mg, .float .f32 cd.bk] 34)) (by have := Z1; omega) hkx.out hown' hgrow HB.out)
            have RS := keep (recS_snoc hkx.out hlt hrec.out HM.out (.slice a1 n1 k1))
            rw [HE2.out, HCD.out] at RS
            have c1 := p1.cells
            have f1 := p1.free
            have P1' := keep p1
            have P0' := keep p0
            have B4 := keep b4
            have Hlt := keep hlt
            clear hown' hgrow p1 p0 b4 hL cC hlt hrec hat
            go_wp2_with fail
            go_roundw
            case rel =>
              have e1 := Hlt.out
              exact ⟨E + 2, k + 1, _, _, xs ++ [(cd, .slice a1 n1 k1)], by go_num, by omega, by omega, keep (by rw [List.length_append, ← hkx.out]; rfl), P1'.out.written 0 _, P0'.out.elsewhere (by show w.heap.size ≠ w.heap.size + 2; omega) _, keep (OW.out.shots P1'.out _), RS, B4.out.setCell (by show w.heap.size ≤ w.heap.size + 2; omega) _⟩
            case measure => simp [intOf]; omega
end Go.Proofs.Ytafaabhnkjjkcaa
