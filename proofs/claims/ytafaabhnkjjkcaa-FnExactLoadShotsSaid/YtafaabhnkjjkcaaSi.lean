/- Contract: the clouds at the beginning of a text, by the program. -/
import Derived.Test.YtafaabhnkjjkcaaSi0
import Derived.Outline
namespace Go.Proofs.Ytafaabhnkjjkcaa
open Go.RowKit Go.Sort

set_option maxHeartbeats 8000000 in
set_option maxRecDepth 20000 in
theorem recoverShots_any (s : ByteArray) (w : World) (hS : s.size ≤ 2000000) : Calls Try.prog 49 #[.string s] w (RecRes s w) := by
  have HL := keep (fun p w hp => loadTail_any s p w hS hp)
  have HC := keep (fun e he w d os => checkBytes_re s e he hS w d os)
  have HX := keep (fun e he w d os => prefix_re s e he w d os)
  have p0 := Has.made w 43 #[.slice none 0 0]
  have p1 := Has.made (w.alloc (.cells #[.slice none 0 0] 43)) 43 #[.slice none 0 0]
  rw [World.size_alloc] at p1
  have P0 := keep (p0.beside (.cells #[.slice none 0 0] 43))
  have P1 := keep p1
  clear p0 p1
  go_enter Try.func49, Try.ntmps49
  go_wp2_with fail
  go_loopw [5] (fun t wr => ∃ (p k c : Nat) (a : Option Addr) (xs : List (CD × Value)), t = .int .i64 p ∧ p ≤ s.size ∧ k ≤ 8 ∧ Kept (k = xs.length) ∧ Has wr (w.heap.size + 1) 43 #[.slice a k c] ∧ Has wr w.heap.size 43 #[.slice none 0 0] ∧ Kept (OwnS wr (w.heap.size + 2) (.slice a k c) xs) ∧ Kept (recS s 8 0 = (xs.map (·.1) ++ (recS s (8 - k) p).1, (recS s (8 - k) p).2)) ∧ Below w.heap.size w wr) (fun t _ => s.size + 1 - (intOf t).toNat)
  case atStart => exact ⟨0, 0, 0, none, [], rfl, Nat.zero_le _, by omega, keep rfl, P1.out, P0.out, keep (OwnS.nil_ _ _), keep rfl, by go_grown⟩
  case round =>
    clear P0 P1
    obtain ⟨p, k, c, a, xs, rfl, hp, hk, hkx, h1, h0, ho, hrec, hbr⟩ := hrel
    have c1 := h1.cells
    have c0 := h0.cells
    have f0 := h0.free
    by_cases hlt : k < 8
    case neg =>
      obtain rfl : k = 8 := by omega
      go_wp2_with fail
      have q := h0.written 0 (.slice a 8 c)
      have qc := q.cells
      exact bodyPost_ret (v := .tuple #[.agg #[.slice a 8 c], .int .i64 p]) (by simp [results, Try.results49, go_sem, qc]) rfl (RecRes.of hrec.out rfl (ho.out.low (Nat.lt_succ_of_lt (Nat.lt_succ_self _)) _) (hbr.setCell (Nat.le_refl _) _))
    case pos =>
      cases hg : goodAt s p
      case false =>
        have HG := keep hg
        have hmore : more s p = false := by unfold more; rw [hg]; rfl
        have HM := keep hmore
        clear hg hmore
        go_wp2_with fail
        refine (HL.out p _ hp).mono ?_
        rintro e w1 hl
        obtain ⟨rfl, hb1⟩ := hl.2 HG.out
        clear hl
        unfold cloudV
        have B1 := keep (hbr.trans (hb1.mono hbr.size))
        have Z1 := hb1.size
        have P1 := keep ((h1.after hb1).beside (.cells #[.int .i64 0, .int .i64 0, .slice none 0 0, .float .f32 0, .float .f32 0] 34))
        have P0 := keep ((h0.after hb1).beside (.cells #[.int .i64 0, .int .i64 0, .slice none 0 0, .float .f32 0, .float .f32 0] 34))
        have O1 := keep ((ho.out.below hb1).alloc (.cells #[.int .i64 0, .int .i64 0, .slice none 0 0, .float .f32 0, .float .f32 0] 34))
        clear c1 c0 f0 hb1
        go_wp2_with fail
        refine wp_region_quiet_below (by as_aux_lemma => kernel_rfl) (by as_aux_lemma => kernel_rfl) ?_
        repeat (any_goals (go_big_quiet_step (fail)))
        refine wpQuiet_nil ?_
        intro w2 hw2
        obtain ⟨⟨d2, os2⟩, rfl⟩ := hw2
        have hb2 := below_regrown (w1.alloc (.cells #[.int .i64 0, .int .i64 0, .slice none 0 0, .float .f32 0, .float .f32 0] 34)) d2 os2
        generalize grow (redrawn (w1.alloc (.cells #[.int .i64 0, .int .i64 0, .slice none 0 0, .float .f32 0, .float .f32 0] 34)) d2) os2 = w2 at *
        have q1 := P1.out.after hb2
        have q0 := P0.out.after hb2
        have O2 := keep (O1.out.below hb2)
        have B2 := keep ((B1.out.alloc B1.out.size (.cells #[.int .i64 0, .int .i64 0, .slice none 0 0, .float .f32 0, .float .f32 0] 34)).trans (hb2.mono (by have := B1.out.size; simp; omega)))
        have c1 := q1.cells
        have c0 := q0.cells
        have f0 := q0.free
        clear hb2
        go_wp2_with fail
        have q := q0.written 0 (.slice a k c)
        have qc := q.cells
        exact bodyPost_ret (v := .tuple #[.agg #[.slice a k c], .int .i64 p]) (by simp [results, Try.results49, go_sem, qc]) rfl (RecRes.of hrec.out (recS_no s _ p HM.out) (O2.out.low (Nat.lt_succ_of_lt (Nat.lt_succ_self _)) _) (B2.out.setCell (Nat.le_refl _) _))
      case true =>
        have HG := keep hg
        obtain ⟨g1, g2, g3, g4, g5, g6⟩ := good_facts s p hg
        have hN : ∃ N : Nat, 15 + 24 * nAt s p = N := ⟨_, rfl⟩
        obtain ⟨N, hN⟩ := hN
        have he : endAt s p = p + N := by unfold endAt; omega
        have hes : p + N ≤ s.size := by omega
        have HN := keep hN
        have HE := keep he
        have hmore : more s p = ckOk s (p + N) := by unfold more; rw [hg, he]; rfl
        have hC := HC.out (p + N) hes
        have hX := HX.out (p + N) hes
        have hsI : (p : Int) + (N : Int) ≤ (s.size : Int) := by omega
        have hN17 : 15 ≤ N := by omega
        have hend : ckOk s (p + N) = true → p + N + 2 ≤ s.size := fun h => by unfold ckOk at h; simp only [Bool.and_eq_true, decide_eq_true_eq] at h; exact h.1
        have HB := keep ho.out.blocks
        clear hg g1 g2 g3 g4 g5 g6 hN he
        cases hk : ckOk s (p + N)
        case false =>
          rw [hk] at hX hmore
          have HM := keep hmore
          have HC1 := keep hC
          have HX1 := keep hX
          clear hk hC hX hmore hend
          go_wp2_with fail
          refine (HL.out p _ hp).mono ?_
          rintro e w1 hl
          obtain ⟨a1, n1, k1, rfl, o1, hb1⟩ := hl.1 HG.out
          clear hl
          rw [HN.out]
          unfold cloudV
          generalize hcd : cdAt s p = cd at *
          have HCD := keep hcd
          clear hcd
          have B1 := keep (hbr.trans (hb1.mono hbr.size))
          have Z1 := hb1.size
          have P1 := keep ((h1.after hb1).beside (.cells #[.int .i64 cd.wd, .int .i64 cd.hg, .slice a1 n1 k1, .float .f32 cd.mg, .float .f32 cd.bk] 34))
          have P0 := keep ((h0.after hb1).beside (.cells #[.int .i64 cd.wd, .int .i64 cd.hg, .slice a1 n1 k1, .float .f32 cd.mg, .float .f32 cd.bk] 34))
          have O1 := keep ((ho.out.below hb1).alloc (.cells #[.int .i64 cd.wd, .int .i64 cd.hg, .slice a1 n1 k1, .float .f32 cd.mg, .float .f32 cd.bk] 34))
          clear c1 c0 f0 hb1 o1
          go_wp2_with fail
          refine wp_region_quiet_below (by as_aux_lemma => kernel_rfl) (by as_aux_lemma => kernel_rfl) ?_
          repeat (any_goals (go_big_quiet_step (first | (with_reducible exact HC1.out _ _ _) | (with_reducible exact HX1.out _ _ _))))
          refine wpQuiet_nil ?_
          intro w2 hw2
          obtain ⟨⟨d2, os2⟩, rfl⟩ := hw2
          have hb2 := below_regrown (w1.alloc (.cells #[.int .i64 cd.wd, .int .i64 cd.hg, .slice a1 n1 k1, .float .f32 cd.mg, .float .f32 cd.bk] 34)) d2 os2
          generalize grow (redrawn (w1.alloc (.cells #[.int .i64 cd.wd, .int .i64 cd.hg, .slice a1 n1 k1, .float .f32 cd.mg, .float .f32 cd.bk] 34)) d2) os2 = w2 at *
          have q1 := P1.out.after hb2
          have q0 := P0.out.after hb2
          have O2 := keep (O1.out.below hb2)
          have B2 := keep ((B1.out.alloc B1.out.size (.cells #[.int .i64 cd.wd, .int .i64 cd.hg, .slice a1 n1 k1, .float .f32 cd.mg, .float .f32 cd.bk] 34)).trans (hb2.mono (by have := B1.out.size; simp; omega)))
          have c1 := q1.cells
          have c0 := q0.cells
          have f0 := q0.free
          clear hb2
          go_wp2_with fail
          have q := q0.written 0 (.slice a k c)
          have qc := q.cells
          exact bodyPost_ret (v := .tuple #[.agg #[.slice a k c], .int .i64 p]) (by simp [results, Try.results49, go_sem, qc]) rfl (RecRes.of hrec.out (recS_no s _ p HM.out) (O2.out.low (Nat.lt_succ_of_lt (Nat.lt_succ_self _)) _) (B2.out.setCell (Nat.le_refl _) _))
        case true =>
          rw [hk] at hX hmore
          have HM := keep hmore
          have HC1 := keep hC
          have HX1 := keep hX
          have hend := hend hk
          have hendI : (p : Int) + (N : Int) + 2 ≤ (s.size : Int) := by omega
          clear hk hC hX hmore
          obtain ⟨i0, hi, hz0, hz1, hz2⟩ := info_parts infoCloud
          have HI := keep hi
          have HZ0 := keep hz0
          have HZ1 := keep hz1
          have HZ2 := keep hz2
          clear hi hz0 hz1 hz2
          go_wp2_with fail
          refine (HL.out p _ hp).mono ?_
          rintro e w1 hl
          obtain ⟨a1, n1, k1, rfl, o1, hb1⟩ := hl.1 HG.out
          clear hl
          rw [HN.out]
          unfold cloudV
          generalize hcd : cdAt s p = cd at *
          have HCD := keep hcd
          clear hcd
          have B1 := keep (hbr.trans (hb1.mono hbr.size))
          have Z1 := hb1.size
          have P1 := keep ((h1.after hb1).beside (.cells #[.int .i64 cd.wd, .int .i64 cd.hg, .slice a1 n1 k1, .float .f32 cd.mg, .float .f32 cd.bk] 34))
          have P0 := keep ((h0.after hb1).beside (.cells #[.int .i64 cd.wd, .int .i64 cd.hg, .slice a1 n1 k1, .float .f32 cd.mg, .float .f32 cd.bk] 34))
          have O1 := keep ((ho.out.below hb1).alloc (.cells #[.int .i64 cd.wd, .int .i64 cd.hg, .slice a1 n1 k1, .float .f32 cd.mg, .float .f32 cd.bk] 34))
          have U1 := keep (o1.alloc (.cells #[.int .i64 cd.wd, .int .i64 cd.hg, .slice a1 n1 k1, .float .f32 cd.mg, .float .f32 cd.bk] 34))
          have PC := keep (Has.made w1 34 #[.int .i64 cd.wd, .int .i64 cd.hg, .slice a1 n1 k1, .float .f32 cd.mg, .float .f32 cd.bk])
          clear c1 c0 f0 hb1 o1
          go_wp2_with fail
          refine wp_region_quiet_below (by as_aux_lemma => kernel_rfl) (by as_aux_lemma => kernel_rfl) ?_
          repeat (any_goals (go_big_quiet_step (first | (with_reducible exact HC1.out _ _ _) | (with_reducible exact HX1.out _ _ _))))
          refine wpQuiet_nil ?_
          intro w2 hw2
          obtain ⟨⟨d2, os2⟩, rfl⟩ := hw2
          have hb2 := below_regrown (w1.alloc (.cells #[.int .i64 cd.wd, .int .i64 cd.hg, .slice a1 n1 k1, .float .f32 cd.mg, .float .f32 cd.bk] 34)) d2 os2
          generalize grow (redrawn (w1.alloc (.cells #[.int .i64 cd.wd, .int .i64 cd.hg, .slice a1 n1 k1, .float .f32 cd.mg, .float .f32 cd.bk] 34)) d2) os2 = w2 at *
          have q1 := P1.out.after hb2
          have q0 := P0.out.after hb2
          have qC := PC.out.after hb2
          have O2 := keep (O1.out.below hb2)
          have U2 := keep (owns_below U1.out hb2)
          have hrow := O2.out.row
          rw [← hkx.out] at hrow
          have HR := keep hrow
          clear hrow
          have B2 := keep ((B1.out.alloc B1.out.size (.cells #[.int .i64 cd.wd, .int .i64 cd.hg, .slice a1 n1 k1, .float .f32 cd.mg, .float .f32 cd.bk] 34)).trans (hb2.mono (by have := B1.out.size; simp; omega)))
          have c1 := q1.cells
          have cC := qC.cells
          have Q1 := keep q1
          have Q0 := keep q0
          have ZR := hbr.size
          have ZH := h1.in_heap
          clear hb2 q1 q0 qC h1 h0
          go_wp2_with (at_builtin; go_loud (refine wpList_append_own_at _ rfl _ _ 41 rfl (w.heap.size + 2) 34 i0 _ 5 48 Try.underlying41 HI.out HZ0.out HZ1.out HZ2.out rfl (by decide) (.slice a k c) k (cCells xs) rfl (HR.out.alloc _) ⟨w2.heap.size, 0, none⟩ 1 1 (cd.vals (.slice a1 n1 k1)) rfl rfl ?c1 ?c2 ?c3 ?c4 ?c5 ?_))
          case c1 =>
            intro j u hj
            exact five_new (Has.made w2 34 #[.int .i64 cd.wd, .int .i64 cd.hg, .slice a1 n1 k1, .float .f32 cd.mg, .float .f32 cd.bk]) j u hj
          case c2 =>
            intro u hu
            simp only [CD.vals, List.mem_cons, List.not_mem_nil, or_false] at hu
            rcases hu with rfl | rfl | rfl | rfl | rfl <;> rfl
          case c3 => unfold maxLen; omega
          case c4 => omega
          case c5 => have := B2.out.size; have := Q1.out.in_heap; simp only [World.size_alloc]; omega
          intro v' w4 hown' hgrow _ _
          obtain ⟨g', cap', rfl, hB', hlt'⟩ := hown'.form (by omega)
          have hL := O2.out.row.lt
          have z1 := Q1.out.in_heap
          have z2 := B2.out.size
          have p1 := Has.grown (Q1.out.beside (.cells #[.int .i64 cd.wd, .int .i64 cd.hg, .slice a1 n1 k1, .float .f32 cd.mg, .float .f32 cd.bk] 34)) hgrow (fun e => by have := hL _ e; omega)
          have p0 := Has.grown (Q0.out.beside (.cells #[.int .i64 cd.wd, .int .i64 cd.hg, .slice a1 n1 k1, .float .f32 cd.mg, .float .f32 cd.bk] 34)) hgrow (fun e => by have := hL _ e; omega)
          have b4 := (B2.out.alloc z2 (.cells #[.int .i64 cd.wd, .int .i64 cd.hg, .slice a1 n1 k1, .float .f32 cd.mg, .float .f32 cd.bk] 34)).grown hgrow (by simp; omega) (fun b e => by have := hL b e; omega)
          have OW := keep (OwnS.snoc (O2.out.alloc (.cells #[.int .i64 cd.wd, .int .i64 cd.hg, .slice a1 n1 k1, .float .f32 cd.mg, .float .f32 cd.bk] 34)) (U2.out.alloc (.cells #[.int .i64 cd.wd, .int .i64 cd.hg, .slice a1 n1 k1, .float .f32 cd.mg, .float .f32 cd.bk] 34)) (by have := Z1; omega) hkx.out hown' hgrow HB.out)
          have RS := keep (recS_snoc hkx.out hlt hrec.out HM.out (.slice a1 n1 k1))
          rw [HE.out, HCD.out] at RS
          have c1 := p1.cells
          have f1 := p1.free
          have P1' := keep p1
          have P0' := keep p0
          have B4 := keep b4
          have Hlt := keep hlt
          clear hown' hgrow p1 p0 b4 hL cC hlt hrec hk
          go_wp2_with fail
          go_roundw
          case rel =>
            have e1 := Hlt.out
            exact ⟨p + N + 2, k + 1, _, _, xs ++ [(cd, .slice a1 n1 k1)], by go_num, by omega, by omega, keep (by rw [List.length_append, ← hkx.out]; rfl), P1'.out.written 0 _, P0'.out.elsewhere (by show w.heap.size ≠ w.heap.size + 1; omega) _, keep (OW.out.low (Nat.lt_succ_self _) _), RS, B4.out.setCell (by show w.heap.size ≤ w.heap.size + 1; omega) _⟩
          case measure => simp [intOf]; omega
end Go.Proofs.Ytafaabhnkjjkcaa
