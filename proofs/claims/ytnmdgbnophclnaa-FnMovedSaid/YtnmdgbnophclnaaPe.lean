/- Contract: a cloud that is split at a limit. -/
import Derived.Test.YtnmdgbnophclnaaPd
namespace Go.Proofs.Ytnmdgbnophclnaa
open Go.RowKit Go.Sort Ieee
set_option linter.unusedSimpArgs false

def isL (p : QP) : Bool := decide (p.x < 24)
theorem filterQ_take (f : QP → Bool) (ps : List QP) (i : Nat) (h : i < ps.length) : (ps.take (i + 1)).filter f = (ps.take i).filter f ++ (if f ps[i] then [ps[i]] else []) := by
  rw [List.take_succ_eq_append_getElem h, List.filter_append]
  congr 1
  cases hf : f ps[i] <;> simp [hf]
theorem isL_cases (p : QP) (hp : p.ok) : (isL p = true ∧ FloatKind.f32.format.order (wd single 3 p.x) (wd single 3 24) = some .lt) ∨ (isL p = false ∧ (FloatKind.f32.format.order (wd single 3 p.x) (wd single 3 24) = some .gt ∨ FloatKind.f32.format.order (wd single 3 p.x) (wd single 3 24) = some .eq)) := by
  obtain ⟨⟨x0, x1⟩, _⟩ := hp
  have o := forder (k := 3) (a := p.x) (b := 24) (by omega) (by omega) (by omega)
  unfold isL
  by_cases h : p.x < 24
  · exact .inl ⟨by simp [h], by rw [o, Int.compare_eq_lt.2 h]⟩
  · refine .inr ⟨by simp [h], ?_⟩
    rw [o]
    rcases Int.lt_or_eq_of_le (show 24 ≤ p.x by omega) with h | h
    · exact .inl (by rw [Int.compare_eq_gt.2 h])
    · exact .inr (by rw [Int.compare_eq_eq.2 h.symm])

/-- Two rows lie apart. -/
def Apart (v1 v2 : Value) : Prop := v1.ownBlock = none ∨ v1.ownBlock ≠ v2.ownBlock
theorem Apart.step {w : World} {B e size n : Nat} {v1 v1' v2 : Value} {xs : List Value} (h : w.ownsRow B e size v2 n xs) (d : Apart v1 v2) (d' : Apart v2 v1) (hor : v1'.ownBlock = v1.ownBlock ∨ v1'.ownBlock = some w.heap.size) : Apart v1' v2 ∧ Apart v2 v1' := by
  unfold Apart at *
  rcases hor with h1 | h1
  · rw [h1]; exact ⟨d, d'⟩
  · rw [h1]
    have hl : v2.ownBlock ≠ some w.heap.size := fun e => by have := (h.lt _ e).2; omega
    exact ⟨.inr (fun e => hl e.symm), .inr hl⟩

theorem setCloud_else {w : World} {g g' : Nat} {t : TypeId} {cs : Array Value} (h : Has w g t cs) (hne : g ≠ g') (W H : Nat) (v : Value) (m b : Nat) : Has (setCloud w g' W H v m b) g t cs :=
  ((((h.elsewhere (p := ⟨g', 0, none⟩) hne _).elsewhere (p := ⟨g', 1, none⟩) hne _).elsewhere (p := ⟨g', 2, none⟩) hne _).elsewhere (p := ⟨g', 3, none⟩) hne _).elsewhere (p := ⟨g', 4, none⟩) hne _

set_option maxHeartbeats 8000000 in
set_option maxRecDepth 20000 in
theorem SplitCloud_ok (W H : Nat) (ps : List QP) (m b : Nat) (h : CloudOk W H ps m b) (B : Nat) (v : Value) (w : World) (hown : RowQ w B v ps) :
    Calls Try.prog 21 #[cloudV W H v m b, .float .f32 (wd single 3 24)] w fun e w' => ∃ v1 v2, e = .returned (.tuple #[cloudV W H v1 m b, cloudV W H v2 m b, .bool true]) ∧ RowQ w' w.heap.size v1 (ps.filter isL) ∧ RowQ w' w.heap.size v2 (ps.filter (fun p => !isL p)) ∧ Below w.heap.size w w' := by
  have VC := keep (fun w h' => ValidCloud_ok W H ps m b h B v w h')
  have HO := keep h.parts
  have hl := h.len
  have HW := keep hown
  obtain ⟨A, c, rfl, hA⟩ := qown_form hown
  have HA := keep hA
  clear hown h hA
  obtain ⟨i0, hi0, hz0, hz1, hz2⟩ := info_parts infoParticle
  have HI := keep hi0
  have HZ0 := keep hz0
  have HZ1 := keep hz1
  have HZ2 := keep hz2
  clear hi0 hz0 hz1 hz2
  unfold cloudV at *
  have PP := ((Has.made w 29 #[.int .i64 W, .int .i64 H, .slice A ps.length c, .float .f32 m, .float .f32 b]).beside (.cells cloudZ 29)).beside (.cells cloudZ 29)
  have XX := (Has.made (w.alloc (.cells #[.int .i64 W, .int .i64 H, .slice A ps.length c, .float .f32 m, .float .f32 b] 29)) 29 cloudZ).beside (.cells cloudZ 29)
  have YY := Has.made ((w.alloc (.cells #[.int .i64 W, .int .i64 H, .slice A ps.length c, .float .f32 m, .float .f32 b] 29)).alloc (.cells cloudZ 29)) 29 cloudZ
  have BB := (((Below.refl w.heap.size w).alloc (Nat.le_refl _) (.cells #[.int .i64 W, .int .i64 H, .slice A ps.length c, .float .f32 m, .float .f32 b] 29)).alloc (by simp only [World.size_alloc]; omega) (.cells cloudZ 29)).alloc (by simp only [World.size_alloc]; omega) (.cells cloudZ 29)
  simp only [World.size_alloc] at XX YY
  have H0 := keep (owns_below HW.out BB)
  have P := keep PP
  have X := keep XX
  have Y := keep YY
  have B0 := keep BB
  clear PP XX YY BB HW
  unfold cloudZ at *
  go_enter Try.func21, Try.ntmps21
  have cg := P.out.cells
  go_wp2_with fail
  refine (VC.out _ H0.out).mono ?_
  rintro e w1 ⟨rfl, hb⟩
  have p1 := P.out.after hb
  have P1 := keep p1
  have X1 := keep (X.out.after hb)
  have Y1 := keep (Y.out.after hb)
  have zY : w.heap.size + 3 ≤ w1.heap.size := (Y.out.after hb).in_heap
  clear cg
  have cg := p1.cells
  have B1 := keep (B0.out.trans (hb.mono B0.out.size))
  have H1 := keep (owns_below H0.out hb)
  clear hb P X Y B0 VC H0 p1
  go_wp2_with fail
  clear cg
  clear H1
  have ON := keep (World.ownsRow_nil w1 (w.heap.size + 3) 52 4)
  go_loopw [21, 7, 8] (fun s o t wr => ∃ (i : Nat) (D : Option Addr) (d : Nat) (la : List QP) (E : Option Addr) (e : Nat) (lb : List QP), i ≤ ps.length ∧ s = .int .i64 i ∧ o = .slice D la.length d ∧ t = .slice E lb.length e ∧ Kept (la = (ps.take i).filter isL) ∧ Kept (lb = (ps.take i).filter (fun p => !isL p)) ∧ Kept (wr.ownsRow (w.heap.size + 3) 52 4 (.slice D la.length d) la.length (psCells (la.map QP.pd))) ∧ Kept (wr.ownsRow (w.heap.size + 3) 52 4 (.slice E lb.length e) lb.length (psCells (lb.map QP.pd))) ∧ Kept (Apart (.slice D la.length d) (.slice E lb.length e)) ∧ Kept (Apart (.slice E lb.length e) (.slice D la.length d)) ∧ Kept (Has wr w.heap.size 29 #[.int .i64 W, .int .i64 H, .slice A ps.length c, .float .f32 m, .float .f32 b]) ∧ Kept (Has wr (w.heap.size + 1) 29 #[.int .i64 0, .int .i64 0, .slice none 0 0, .float .f32 0, .float .f32 0]) ∧ Kept (Has wr (w.heap.size + 2) 29 #[.int .i64 0, .int .i64 0, .slice none 0 0, .float .f32 0, .float .f32 0]) ∧ Kept (Below w.heap.size w wr)) (fun s _ _ _ => ps.length - (intOf s).toNat)
  case atStart => exact ⟨0, none, 0, [], none, 0, [], Nat.zero_le _, rfl, rfl, rfl, keep (by simp), keep (by simp), ON, ON, keep (.inl rfl), keep (.inl rfl), P1, X1, Y1, B1⟩
  case round =>
    clear ON P1 X1 Y1
    obtain ⟨i, D, d, la, E, e, lb, hi, rfl, rfl, rfl, hla, hlb, hoa, hob, hda, hdb, hP, hX, hY, hb⟩ := hrel
    have las : la.length ≤ 6 := by
      rw [hla.out]
      have := List.length_filter_le isL (ps.take i)
      rw [List.length_take] at this
      omega
    have lbs : lb.length ≤ 6 := by
      rw [hlb.out]
      have := List.length_filter_le (fun p => !isL p) (ps.take i)
      rw [List.length_take] at this
      omega
    have hsz : w.heap.size + 3 ≤ wr.heap.size := hY.out.in_heap
    by_cases hlt : i < ps.length
    · obtain ⟨g, rfl, hg, c0, c1, c2, c3⟩ := HA.out i hlt
      have d0 := (hb.out.cell (p := ⟨g, i * 4, none⟩) hg).trans c0
      have d1 := (hb.out.cell (p := ⟨g, i * 4 + 1, none⟩) hg).trans c1
      have d2 := (hb.out.cell (p := ⟨g, i * 4 + 2, none⟩) hg).trans c2
      have d3 := (hb.out.cell (p := ⟨g, i * 4 + 3, none⟩) hg).trans c3
      have t1 := keep (filterQ_take isL ps i hlt)
      have t2 := keep (filterQ_take (fun p => !isL p) ps i hlt)
      have hp := HO.out _ (List.getElem_mem hlt)
      have sc := isL_cases _ hp
      clear c0 c1 c2 c3 hp HA
      generalize ps[i] = p at *
      rcases sc with ⟨o1, o2⟩ | ⟨o1, o2⟩
      · have O1 := keep o1
        clear o1

        go_wp2_with (at_builtin; go_loud (refine wpList_append_own_at _ rfl _ _ 26 rfl (w.heap.size + 3) 52 i0 _ 4 24 Try.underlying26 HI.out HZ0.out HZ1.out HZ2.out rfl (by decide) (.slice D la.length d) la.length _ rfl ((hoa.out.alloc _).alloc _) ⟨wr.heap.size + 1, 0, none⟩ 1 1 (PD.cells ⟨wd single 3 p.x, wd single 3 p.y, wd single 3 p.u, wd single 3 p.v, wd single 2 p.q, wd single 1 p.m⟩) rfl rfl ?c1 ?c2 ?c3 ?c4 ?c5 ?_))
        case c1 =>
          have r := Has.made (wr.alloc (.cells #[.complex .f32 (wd single 3 p.x) (wd single 3 p.y), .complex .f32 (wd single 3 p.u) (wd single 3 p.v), .float .f32 (wd single 2 p.q), .float .f32 (wd single 1 p.m)] 52)) 52 #[.complex .f32 (wd single 3 p.x) (wd single 3 p.y), .complex .f32 (wd single 3 p.u) (wd single 3 p.v), .float .f32 (wd single 2 p.q), .float .f32 (wd single 1 p.m)]
          rw [World.size_alloc] at r
          intro j u hj
          exact four_new r j u hj
        case c2 =>
          intro u hu
          simp only [PD.cells, List.mem_cons, List.not_mem_nil, or_false] at hu
          rcases hu with rfl | rfl | rfl | rfl <;> rfl
        case c3 => unfold maxLen; omega
        case c4 => omega
        case c5 => first | omega | (simp only [World.size_alloc]; omega)
        intro v' w5 hown' hgrow _ hor
        obtain ⟨g', cap', rfl, hB', hlt'⟩ := hown'.form (by omega)
        have hL := hoa.out.lt
        have bX : Below (w.heap.size + 3) _ w5 := (Below.refl (w.heap.size + 3) _).grown hgrow (by simp only [World.size_alloc]; omega) (fun b e => (hL b e).1)
        have ot := (hob.out.alloc (.cells #[.complex .f32 (wd single 3 p.x) (wd single 3 p.y), .complex .f32 (wd single 3 p.u) (wd single 3 p.v), .float .f32 (wd single 2 p.q), .float .f32 (wd single 1 p.m)] 52)).alloc (.cells #[.complex .f32 (wd single 3 p.x) (wd single 3 p.y), .complex .f32 (wd single 3 p.u) (wd single 3 p.v), .float .f32 (wd single 2 p.q), .float .f32 (wd single 1 p.m)] 52)
        have AP := keep (Apart.step ot hda.out hdb.out (hor.imp id (fun e => e.trans (by simp only [World.size_alloc]))))
        have OT := keep (ot.kept hgrow hdb.out)
        have B6 := keep (((hb.out.alloc (by omega) (.cells #[.complex .f32 (wd single 3 p.x) (wd single 3 p.y), .complex .f32 (wd single 3 p.u) (wd single 3 p.v), .float .f32 (wd single 2 p.q), .float .f32 (wd single 1 p.m)] 52)).alloc (by simp only [World.size_alloc]; omega) (.cells #[.complex .f32 (wd single 3 p.x) (wd single 3 p.y), .complex .f32 (wd single 3 p.u) (wd single 3 p.v), .float .f32 (wd single 2 p.q), .float .f32 (wd single 1 p.m)] 52)).trans (bX.mono (by omega)))
        have P6 := keep (((hP.out.beside _).beside _).later bX (by omega))
        have X6 := keep (((hX.out.beside _).beside _).later bX (by omega))
        have Y6 := keep (((hY.out.beside _).beside _).later bX (by omega))
        have OW := keep hown'
        clear hown' hgrow bX hL ot hor
        go_wp2_with fail
        go_roundw
        case rel => exact ⟨i + 1, _, _, la ++ [p], E, e, lb, by omega, by go_num, by rw [List.length_append]; rfl, rfl, keep (by
          have e := t1.out
          simp only [O1.out, Bool.not_false, if_true] at e
          rw [e, ← hla.out]), keep (by
          have e := t2.out
          simp only [O1.out, Bool.not_true, Bool.false_eq_true, if_false, List.append_nil] at e
          rw [e]; exact hlb.out), keep (by
          have e := OW.out
          rw [List.map_append, psCells_append, List.length_append]
          exact e), OT, keep AP.out.1, keep AP.out.2, P6, X6, Y6, B6⟩
        case measure => simp [intOf]; omega
      · have O1 := keep o1
        clear o1
        rcases o2 with o2 | o2
        all_goals
          go_wp2_with (at_builtin; go_loud (refine wpList_append_own_at _ rfl _ _ 26 rfl (w.heap.size + 3) 52 i0 _ 4 24 Try.underlying26 HI.out HZ0.out HZ1.out HZ2.out rfl (by decide) (.slice E lb.length e) lb.length _ rfl ((hob.out.alloc _).alloc _) ⟨wr.heap.size + 1, 0, none⟩ 1 1 (PD.cells ⟨wd single 3 p.x, wd single 3 p.y, wd single 3 p.u, wd single 3 p.v, wd single 2 p.q, wd single 1 p.m⟩) rfl rfl ?c1 ?c2 ?c3 ?c4 ?c5 ?_))
          case c1 =>
            have r := Has.made (wr.alloc (.cells #[.complex .f32 (wd single 3 p.x) (wd single 3 p.y), .complex .f32 (wd single 3 p.u) (wd single 3 p.v), .float .f32 (wd single 2 p.q), .float .f32 (wd single 1 p.m)] 52)) 52 #[.complex .f32 (wd single 3 p.x) (wd single 3 p.y), .complex .f32 (wd single 3 p.u) (wd single 3 p.v), .float .f32 (wd single 2 p.q), .float .f32 (wd single 1 p.m)]
            rw [World.size_alloc] at r
            intro j u hj
            exact four_new r j u hj
          case c2 =>
            intro u hu
            simp only [PD.cells, List.mem_cons, List.not_mem_nil, or_false] at hu
            rcases hu with rfl | rfl | rfl | rfl <;> rfl
          case c3 => unfold maxLen; omega
          case c4 => omega
          case c5 => first | omega | (simp only [World.size_alloc]; omega)
          intro v' w5 hown' hgrow _ hor
          obtain ⟨g', cap', rfl, hB', hlt'⟩ := hown'.form (by omega)
          have hL := hob.out.lt
          have bX : Below (w.heap.size + 3) _ w5 := (Below.refl (w.heap.size + 3) _).grown hgrow (by simp only [World.size_alloc]; omega) (fun b e => (hL b e).1)
          have ot := (hoa.out.alloc (.cells #[.complex .f32 (wd single 3 p.x) (wd single 3 p.y), .complex .f32 (wd single 3 p.u) (wd single 3 p.v), .float .f32 (wd single 2 p.q), .float .f32 (wd single 1 p.m)] 52)).alloc (.cells #[.complex .f32 (wd single 3 p.x) (wd single 3 p.y), .complex .f32 (wd single 3 p.u) (wd single 3 p.v), .float .f32 (wd single 2 p.q), .float .f32 (wd single 1 p.m)] 52)
          have AP := keep (Apart.step ot hdb.out hda.out (hor.imp id (fun e => e.trans (by simp only [World.size_alloc]))))
          have OT := keep (ot.kept hgrow hda.out)
          have B6 := keep (((hb.out.alloc (by omega) (.cells #[.complex .f32 (wd single 3 p.x) (wd single 3 p.y), .complex .f32 (wd single 3 p.u) (wd single 3 p.v), .float .f32 (wd single 2 p.q), .float .f32 (wd single 1 p.m)] 52)).alloc (by simp only [World.size_alloc]; omega) (.cells #[.complex .f32 (wd single 3 p.x) (wd single 3 p.y), .complex .f32 (wd single 3 p.u) (wd single 3 p.v), .float .f32 (wd single 2 p.q), .float .f32 (wd single 1 p.m)] 52)).trans (bX.mono (by omega)))
          have P6 := keep (((hP.out.beside _).beside _).later bX (by omega))
          have X6 := keep (((hX.out.beside _).beside _).later bX (by omega))
          have Y6 := keep (((hY.out.beside _).beside _).later bX (by omega))
          have OW := keep hown'
          clear hown' hgrow bX hL ot hor
          go_wp2_with fail
          go_roundw
          case rel => exact ⟨i + 1, D, d, la, _, _, lb ++ [p], by omega, by go_num, rfl, by rw [List.length_append]; rfl, keep (by
            have e := t1.out
            simp only [O1.out, Bool.not_true, Bool.false_eq_true, if_false, List.append_nil] at e
            rw [e]; exact hla.out), keep (by
            have e := t2.out
            simp only [O1.out, Bool.not_false, if_true] at e
            rw [e, ← hlb.out]), OT, keep (by
            have e := OW.out
            rw [List.map_append, psCells_append, List.length_append]
            exact e), keep AP.out.2, keep AP.out.1, P6, X6, Y6, B6⟩
          case measure => simp [intOf]; omega
    · obtain rfl : i = ps.length := by omega
      have ea := hla.out
      have eb := hlb.out
      rw [List.take_length] at ea eb
      subst ea
      subst eb
      have zP := hP.out.cells
      have zP1 := (hP.out.beside (.cells #[.int .i64 0, .int .i64 0, .slice none 0 0, .float .f32 0, .float .f32 0] 29)).cells
      have zP2 := ((hP.out.beside (.cells #[.int .i64 0, .int .i64 0, .slice none 0 0, .float .f32 0, .float .f32 0] 29)).beside (.cells #[.int .i64 0, .int .i64 0, .slice none 0 0, .float .f32 0, .float .f32 0] 29)).cells
      have lP := hP.out.in_heap
      have lX := hX.out.in_heap
      have lY := hY.out.in_heap
      clear hda hdb hP hlt hi las lbs hl HI HZ0 HZ1 HZ2 hla hlb B1 HA HO
      go_wp2_with fail
      go_region
      all_goals
        clear zP zP1 zP2
        have Q1 := (Has.made wr 29 #[.int .i64 W, .int .i64 H, .slice A ps.length c, .float .f32 m, .float .f32 b]).beside (.cells #[.int .i64 W, .int .i64 H, .slice A ps.length c, .float .f32 m, .float .f32 b] 29)
        have Q2 := Has.made (wr.alloc (.cells #[.int .i64 W, .int .i64 H, .slice A ps.length c, .float .f32 m, .float .f32 b] 29)) 29 #[.int .i64 W, .int .i64 H, .slice A ps.length c, .float .f32 m, .float .f32 b]
        rw [World.size_alloc] at Q2
        have X2 := (hX.out.beside (.cells #[.int .i64 W, .int .i64 H, .slice A ps.length c, .float .f32 m, .float .f32 b] 29)).beside (.cells #[.int .i64 W, .int .i64 H, .slice A ps.length c, .float .f32 m, .float .f32 b] 29)
        have Y2 := (hY.out.beside (.cells #[.int .i64 W, .int .i64 H, .slice A ps.length c, .float .f32 m, .float .f32 b] 29)).beside (.cells #[.int .i64 W, .int .i64 H, .slice A ps.length c, .float .f32 m, .float .f32 b] 29)
        have B2 := ((Below.refl wr.heap.size wr).alloc (Nat.le_refl _) (.cells #[.int .i64 W, .int .i64 H, .slice A ps.length c, .float .f32 m, .float .f32 b] 29)).alloc (by rw [World.size_alloc]; omega) (.cells #[.int .i64 W, .int .i64 H, .slice A ps.length c, .float .f32 m, .float .f32 b] 29)
        have B2 := Below.drew B2
        have Q1 : Has ((wr.alloc (.cells #[.int .i64 W, .int .i64 H, .slice A ps.length c, .float .f32 m, .float .f32 b] 29)).alloc (.cells #[.int .i64 W, .int .i64 H, .slice A ps.length c, .float .f32 m, .float .f32 b] 29)).drew wr.heap.size 29 #[.int .i64 W, .int .i64 H, .slice A ps.length c, .float .f32 m, .float .f32 b] := Q1
        have Q2 : Has ((wr.alloc (.cells #[.int .i64 W, .int .i64 H, .slice A ps.length c, .float .f32 m, .float .f32 b] 29)).alloc (.cells #[.int .i64 W, .int .i64 H, .slice A ps.length c, .float .f32 m, .float .f32 b] 29)).drew (wr.heap.size + 1) 29 #[.int .i64 W, .int .i64 H, .slice A ps.length c, .float .f32 m, .float .f32 b] := Q2
        have X2 : Has ((wr.alloc (.cells #[.int .i64 W, .int .i64 H, .slice A ps.length c, .float .f32 m, .float .f32 b] 29)).alloc (.cells #[.int .i64 W, .int .i64 H, .slice A ps.length c, .float .f32 m, .float .f32 b] 29)).drew (w.heap.size + 1) 29 #[.int .i64 0, .int .i64 0, .slice none 0 0, .float .f32 0, .float .f32 0] := X2
        have Y2 : Has ((wr.alloc (.cells #[.int .i64 W, .int .i64 H, .slice A ps.length c, .float .f32 m, .float .f32 b] 29)).alloc (.cells #[.int .i64 W, .int .i64 H, .slice A ps.length c, .float .f32 m, .float .f32 b] 29)).drew (w.heap.size + 2) 29 #[.int .i64 0, .int .i64 0, .slice none 0 0, .float .f32 0, .float .f32 0] := Y2
        clear hX hY
        generalize ((wr.alloc (.cells #[.int .i64 W, .int .i64 H, .slice A ps.length c, .float .f32 m, .float .f32 b] 29)).alloc (.cells #[.int .i64 W, .int .i64 H, .slice A ps.length c, .float .f32 m, .float .f32 b] 29)).drew = W2 at *
        have ca1 := Q1.cells
        have ca2 := Q2.cells
        have cf1 := Q1.free
        have cf2 := Q2.free
        have KQ1 := keep Q1
        have KQ2 := keep Q2
        have KX2 := keep X2
        have KY2 := keep Y2
        have KB2 := keep B2
        clear Q1 Q2 X2 Y2 B2
        go_wp2_with fail
      · have q1 : Has ((W2.setCell ⟨wr.heap.size, 2, none⟩ (.slice D (ps.filter isL).length d)).setCell ⟨wr.heap.size + 1, 2, none⟩ (.slice E (ps.filter (fun p => !isL p)).length e)) (wr.heap.size) 29 #[.int .i64 W, .int .i64 H, .slice D (ps.filter isL).length d, .float .f32 m, .float .f32 b] := (KQ1.out.written 2 (.slice D (ps.filter isL).length d)).elsewhere (p := ⟨wr.heap.size + 1, 2, none⟩) (by show wr.heap.size ≠ wr.heap.size + 1; omega) (.slice E (ps.filter (fun p => !isL p)).length e)
        have q2 : Has ((W2.setCell ⟨wr.heap.size, 2, none⟩ (.slice D (ps.filter isL).length d)).setCell ⟨wr.heap.size + 1, 2, none⟩ (.slice E (ps.filter (fun p => !isL p)).length e)) (wr.heap.size + 1) 29 #[.int .i64 W, .int .i64 H, .slice E (ps.filter (fun p => !isL p)).length e, .float .f32 m, .float .f32 b] := (KQ2.out.elsewhere (p := ⟨wr.heap.size, 2, none⟩) (by show wr.heap.size + 1 ≠ wr.heap.size; omega) (.slice D (ps.filter isL).length d)).written 2 (.slice E (ps.filter (fun p => !isL p)).length e)
        have x3 := (KX2.out.elsewhere (p := ⟨wr.heap.size, 2, none⟩) (by show w.heap.size + 1 ≠ wr.heap.size; omega) (.slice D (ps.filter isL).length d)).elsewhere (p := ⟨wr.heap.size + 1, 2, none⟩) (by show w.heap.size + 1 ≠ wr.heap.size + 1; omega) (.slice E (ps.filter (fun p => !isL p)).length e)
        have y3 := (KY2.out.elsewhere (p := ⟨wr.heap.size, 2, none⟩) (by show w.heap.size + 2 ≠ wr.heap.size; omega) (.slice D (ps.filter isL).length d)).elsewhere (p := ⟨wr.heap.size + 1, 2, none⟩) (by show w.heap.size + 2 ≠ wr.heap.size + 1; omega) (.slice E (ps.filter (fun p => !isL p)).length e)
        have b3 := (KB2.out.setCell (p := ⟨wr.heap.size, 2, none⟩) (by show wr.heap.size ≤ wr.heap.size; omega) (.slice D (ps.filter isL).length d)).setCell (p := ⟨wr.heap.size + 1, 2, none⟩) (by show wr.heap.size ≤ wr.heap.size + 1; omega) (.slice E (ps.filter (fun p => !isL p)).length e)
        have z3 : wr.heap.size + 1 < ((W2.setCell ⟨wr.heap.size, 2, none⟩ (.slice D (ps.filter isL).length d)).setCell ⟨wr.heap.size + 1, 2, none⟩ (.slice E (ps.filter (fun p => !isL p)).length e)).heap.size := by
          have := b3.size
          have h1 := q1.in_heap
          have h2 := q2.in_heap
          omega
        clear KQ1 KQ2 KX2 KY2 KB2 ca1 ca2 cf1 cf2
        generalize ((W2.setCell ⟨wr.heap.size, 2, none⟩ (.slice D (ps.filter isL).length d)).setCell ⟨wr.heap.size + 1, 2, none⟩ (.slice E (ps.filter (fun p => !isL p)).length e)) = W3 at *
        have R1 := keep (owns_below hoa.out b3)
        have R2 := keep (owns_below hob.out b3)
        have B3 := keep (hb.out.trans (b3.mono (by omega)))
        have X3 := keep (show Has W3 (w.heap.size + 1) 29 cloudZ from x3)
        have Y3 := keep (show Has W3 (w.heap.size + 2) 29 cloudZ from y3)
        have ca1 := q1.cells
        have ca2 := q2.cells
        have cx := x3.cells
        have cy := y3.cells
        have fx := x3.free
        have fy := y3.free
        clear q1 q2 x3 y3 b3 hoa hob hb
        go_region
        go_wp2_with fail
        have F1 := setCloud_has X3.out W H (.slice D (ps.filter isL).length d) m b
        have F2 := setCloud_else F1 (show w.heap.size + 1 ≠ w.heap.size + 2 by omega) W H (.slice E (ps.filter (fun p => !isL p)).length e) m b
        have G1 := setCloud_else Y3.out (show w.heap.size + 2 ≠ w.heap.size + 1 by omega) W H (.slice D (ps.filter isL).length d) m b
        have G2 := setCloud_has G1 W H (.slice E (ps.filter (fun p => !isL p)).length e) m b
        have R1 := keep (own_base (setCloud_own (setCloud_own R1.out (show w.heap.size + 1 < w.heap.size + 3 by omega) W H (.slice D (ps.filter isL).length d) m b) (show w.heap.size + 2 < w.heap.size + 3 by omega) W H (.slice E (ps.filter (fun p => !isL p)).length e) m b) (show w.heap.size ≤ w.heap.size + 3 by omega))
        have R2 := keep (own_base (setCloud_own (setCloud_own R2.out (show w.heap.size + 1 < w.heap.size + 3 by omega) W H (.slice D (ps.filter isL).length d) m b) (show w.heap.size + 2 < w.heap.size + 3 by omega) W H (.slice E (ps.filter (fun p => !isL p)).length e) m b) (show w.heap.size ≤ w.heap.size + 3 by omega))
        have B4 := keep (setCloud_below (setCloud_below B3.out (show w.heap.size ≤ w.heap.size + 1 by omega) W H (.slice D (ps.filter isL).length d) m b) (show w.heap.size ≤ w.heap.size + 2 by omega) W H (.slice E (ps.filter (fun p => !isL p)).length e) m b)
        have qc1 := F2.cells
        have qc2 := G2.cells
        clear F1 F2 G1 G2 ca1 ca2 cx cy fx fy X3 Y3 B3
        unfold setCloud at R1 R2 B4 qc1 qc2
        exact bodyPost_ret (v := .tuple #[.agg #[.int .i64 W, .int .i64 H, .slice D (ps.filter isL).length d, .float .f32 m, .float .f32 b], .agg #[.int .i64 W, .int .i64 H, .slice E (ps.filter (fun p => !isL p)).length e, .float .f32 m, .float .f32 b], .bool true]) (by simp [results, Try.results21, go_sem, qc1, qc2]) rfl ⟨.slice D (ps.filter isL).length d, .slice E (ps.filter (fun p => !isL p)).length e, rfl, owns_below R1.out (Below.drew (Below.refl _ _)), owns_below R2.out (Below.drew (Below.refl _ _)), Below.drew B4.out⟩
      · have q1 : Has ((W2.setCell ⟨wr.heap.size + 1, 2, none⟩ (.slice D (ps.filter isL).length d)).setCell ⟨wr.heap.size, 2, none⟩ (.slice E (ps.filter (fun p => !isL p)).length e)) (wr.heap.size + 1) 29 #[.int .i64 W, .int .i64 H, .slice D (ps.filter isL).length d, .float .f32 m, .float .f32 b] := (KQ2.out.written 2 (.slice D (ps.filter isL).length d)).elsewhere (p := ⟨wr.heap.size, 2, none⟩) (by show wr.heap.size + 1 ≠ wr.heap.size; omega) (.slice E (ps.filter (fun p => !isL p)).length e)
        have q2 : Has ((W2.setCell ⟨wr.heap.size + 1, 2, none⟩ (.slice D (ps.filter isL).length d)).setCell ⟨wr.heap.size, 2, none⟩ (.slice E (ps.filter (fun p => !isL p)).length e)) (wr.heap.size) 29 #[.int .i64 W, .int .i64 H, .slice E (ps.filter (fun p => !isL p)).length e, .float .f32 m, .float .f32 b] := (KQ1.out.elsewhere (p := ⟨wr.heap.size + 1, 2, none⟩) (by show wr.heap.size ≠ wr.heap.size + 1; omega) (.slice D (ps.filter isL).length d)).written 2 (.slice E (ps.filter (fun p => !isL p)).length e)
        have x3 := (KX2.out.elsewhere (p := ⟨wr.heap.size + 1, 2, none⟩) (by show w.heap.size + 1 ≠ wr.heap.size + 1; omega) (.slice D (ps.filter isL).length d)).elsewhere (p := ⟨wr.heap.size, 2, none⟩) (by show w.heap.size + 1 ≠ wr.heap.size; omega) (.slice E (ps.filter (fun p => !isL p)).length e)
        have y3 := (KY2.out.elsewhere (p := ⟨wr.heap.size + 1, 2, none⟩) (by show w.heap.size + 2 ≠ wr.heap.size + 1; omega) (.slice D (ps.filter isL).length d)).elsewhere (p := ⟨wr.heap.size, 2, none⟩) (by show w.heap.size + 2 ≠ wr.heap.size; omega) (.slice E (ps.filter (fun p => !isL p)).length e)
        have b3 := (KB2.out.setCell (p := ⟨wr.heap.size + 1, 2, none⟩) (by show wr.heap.size ≤ wr.heap.size + 1; omega) (.slice D (ps.filter isL).length d)).setCell (p := ⟨wr.heap.size, 2, none⟩) (by show wr.heap.size ≤ wr.heap.size; omega) (.slice E (ps.filter (fun p => !isL p)).length e)
        have z3 : wr.heap.size + 1 < ((W2.setCell ⟨wr.heap.size + 1, 2, none⟩ (.slice D (ps.filter isL).length d)).setCell ⟨wr.heap.size, 2, none⟩ (.slice E (ps.filter (fun p => !isL p)).length e)).heap.size := by
          have := b3.size
          have h1 := q1.in_heap
          have h2 := q2.in_heap
          omega
        clear KQ1 KQ2 KX2 KY2 KB2 ca1 ca2 cf1 cf2
        generalize ((W2.setCell ⟨wr.heap.size + 1, 2, none⟩ (.slice D (ps.filter isL).length d)).setCell ⟨wr.heap.size, 2, none⟩ (.slice E (ps.filter (fun p => !isL p)).length e)) = W3 at *
        have R1 := keep (owns_below hoa.out b3)
        have R2 := keep (owns_below hob.out b3)
        have B3 := keep (hb.out.trans (b3.mono (by omega)))
        have X3 := keep (show Has W3 (w.heap.size + 1) 29 cloudZ from x3)
        have Y3 := keep (show Has W3 (w.heap.size + 2) 29 cloudZ from y3)
        have ca1 := q1.cells
        have ca2 := q2.cells
        have cx := x3.cells
        have cy := y3.cells
        have fx := x3.free
        have fy := y3.free
        clear q1 q2 x3 y3 b3 hoa hob hb
        go_region
        go_wp2_with fail
        have F1 := setCloud_has X3.out W H (.slice D (ps.filter isL).length d) m b
        have F2 := setCloud_else F1 (show w.heap.size + 1 ≠ w.heap.size + 2 by omega) W H (.slice E (ps.filter (fun p => !isL p)).length e) m b
        have G1 := setCloud_else Y3.out (show w.heap.size + 2 ≠ w.heap.size + 1 by omega) W H (.slice D (ps.filter isL).length d) m b
        have G2 := setCloud_has G1 W H (.slice E (ps.filter (fun p => !isL p)).length e) m b
        have R1 := keep (own_base (setCloud_own (setCloud_own R1.out (show w.heap.size + 1 < w.heap.size + 3 by omega) W H (.slice D (ps.filter isL).length d) m b) (show w.heap.size + 2 < w.heap.size + 3 by omega) W H (.slice E (ps.filter (fun p => !isL p)).length e) m b) (show w.heap.size ≤ w.heap.size + 3 by omega))
        have R2 := keep (own_base (setCloud_own (setCloud_own R2.out (show w.heap.size + 1 < w.heap.size + 3 by omega) W H (.slice D (ps.filter isL).length d) m b) (show w.heap.size + 2 < w.heap.size + 3 by omega) W H (.slice E (ps.filter (fun p => !isL p)).length e) m b) (show w.heap.size ≤ w.heap.size + 3 by omega))
        have B4 := keep (setCloud_below (setCloud_below B3.out (show w.heap.size ≤ w.heap.size + 1 by omega) W H (.slice D (ps.filter isL).length d) m b) (show w.heap.size ≤ w.heap.size + 2 by omega) W H (.slice E (ps.filter (fun p => !isL p)).length e) m b)
        have qc1 := F2.cells
        have qc2 := G2.cells
        clear F1 F2 G1 G2 ca1 ca2 cx cy fx fy X3 Y3 B3
        unfold setCloud at R1 R2 B4 qc1 qc2
        exact bodyPost_ret (v := .tuple #[.agg #[.int .i64 W, .int .i64 H, .slice D (ps.filter isL).length d, .float .f32 m, .float .f32 b], .agg #[.int .i64 W, .int .i64 H, .slice E (ps.filter (fun p => !isL p)).length e, .float .f32 m, .float .f32 b], .bool true]) (by simp [results, Try.results21, go_sem, qc1, qc2]) rfl ⟨.slice D (ps.filter isL).length d, .slice E (ps.filter (fun p => !isL p)).length e, rfl, owns_below R1.out (Below.drew (Below.refl _ _)), owns_below R2.out (Below.drew (Below.refl _ _)), Below.drew B4.out⟩
end Go.Proofs.Ytnmdgbnophclnaa
