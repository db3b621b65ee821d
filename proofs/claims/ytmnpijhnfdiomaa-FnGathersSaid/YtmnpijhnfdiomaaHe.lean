/- Contracts: the charge of a list; a list without those outside. -/
import Derived.Test.YtmnpijhnfdiomaaHd
namespace Go.Proofs.Ytmnpijhnfdiomaa
open Go.RowKit Go.Sort Ieee
set_option linter.unusedSimpArgs false

def sumQ (gs : List GP) : Int := (gs.map GP.q).sum

theorem gown_form {w : World} {B : Nat} {v : Value} {gs : List GP} (h : w.ownsRow B 50 4 v gs.length (psCells (gs.map GP.pd))) :
    ∃ A c, v = .slice A gs.length c ∧ ∀ i (hi : i < gs.length), ∃ g, A = some ⟨g, 0, none⟩ ∧ g < w.heap.size ∧ w.cell? ⟨g, i * 4, none⟩ = some (.complex .f32 (wd single 3 gs[i].x) (wd single 3 gs[i].y)) ∧ w.cell? ⟨g, i * 4 + 1, none⟩ = some (.complex .f32 (wd single 3 gs[i].u) (wd single 3 gs[i].v)) ∧ w.cell? ⟨g, i * 4 + 2, none⟩ = some (.float .f32 (wd single 1 gs[i].q)) ∧ w.cell? ⟨g, i * 4 + 3, none⟩ = some (.float .f32 (wd single 2 gs[i].m)) := by
  obtain ⟨A, c, rfl, hA⟩ := own_form (ps := gs.map GP.pd) (by rw [List.length_map]; exact h)
  rw [List.length_map] at hA ⊢
  refine ⟨A, c, rfl, fun i hi => ?_⟩
  obtain ⟨g, rfl, hg, hc⟩ := hA (by omega)
  have hi' : i < (gs.map GP.pd).length := by rw [List.length_map]; exact hi
  have h4 : ∀ j u, j < 4 → gs[i].pd.cells[j]? = some u → w.cell? ⟨g, i * 4 + j, none⟩ = some u := fun j u hj hu => hc _ _ (by rw [psCells_at _ i hi' j hj, List.getElem_map]; exact hu)
  exact ⟨g, rfl, hg, h4 0 _ (by omega) rfl, h4 1 _ (by omega) rfl, h4 2 _ (by omega) rfl, h4 3 _ (by omega) rfl⟩

theorem sumQ_take (gs : List GP) (i : Nat) (h : i < gs.length) : sumQ (gs.take (i + 1)) = sumQ (gs.take i) + gs[i].q := by
  unfold sumQ
  rw [List.take_succ_eq_append_getElem h, List.map_append, List.sum_append]
  simp
theorem sumQ_bound (gs : List GP) (h : ∀ p ∈ gs, p.ok) : -(4 * (gs.length : Int)) ≤ sumQ gs ∧ sumQ gs ≤ 4 * (gs.length : Int) := by
  induction gs with
  | nil => simp [sumQ]
  | cons p gs ih =>
    have h1 := ih (fun q hq => h q (List.mem_cons_of_mem _ hq))
    obtain ⟨_, _, _, _, ⟨a, b⟩, _⟩ := h p (List.mem_cons_self ..)
    unfold sumQ at *
    simp only [List.map_cons, List.sum_cons, List.length_cons]
    omega

theorem Areg_ok (B : Nat) (v : Value) (gs : List GP) (w : World) (h : w.ownsRow B 50 4 v gs.length (psCells (gs.map GP.pd))) (hok : ∀ p ∈ gs, p.ok) (hN : gs.length ≤ 6) :
    Calls Try.prog 34 #[v] w fun e w' => e = .returned (.bool true) ∧ Below w.heap.size w w' :=
  AreParticles_ok B v (gs.map GP.pd) w (by rw [List.length_map]; exact h) (GP.all_ok gs hok) (by rw [List.length_map]; omega)

set_option maxHeartbeats 2000000 in
set_option maxRecDepth 20000 in
theorem ChargeOf_ok (B : Nat) (v : Value) (gs : List GP) (w : World) (h : w.ownsRow B 50 4 v gs.length (psCells (gs.map GP.pd))) (hok : ∀ p ∈ gs, p.ok) (hN : gs.length ≤ 6) :
    Calls Try.prog 20 #[v] w fun e w' => e = .returned (.tuple #[.float .f32 (wd single 1 (sumQ gs)), .bool true]) ∧ Below w.heap.size w w' := by
  have AP := keep (Areg_ok B v gs w h hok hN)
  obtain ⟨A, c, rfl, hA⟩ := gown_form h
  have HA := keep hA
  have HO := keep hok
  clear h hA hok
  have z0 := wd_zero single 1
  go_enter Try.func20, Try.ntmps20
  go_wp2_with fail
  refine AP.out.mono ?_
  rintro e w1 ⟨rfl, hb⟩
  have B1 := keep hb
  clear hb
  go_wp2_with fail
  go_loopw [12, 4] (fun s t wr => ∃ (i : Nat) (S : Int), i ≤ gs.length ∧ s = .int .i64 i ∧ t = .float .f32 (wd single 1 S) ∧ Kept (S = sumQ (gs.take i)) ∧ Kept (Below w.heap.size w wr)) (fun s _ _ => gs.length - (intOf s).toNat)
  case atStart => exact ⟨0, 0, Nat.zero_le _, rfl, by rw [z0], keep (by simp [sumQ]), B1⟩
  case round =>
    clear AP B1 z0
    obtain ⟨i, S, hi, rfl, rfl, hS, hb⟩ := hrel
    by_cases hlt : i < gs.length
    · obtain ⟨g, rfl, hg, c0, c1, c2, c3⟩ := HA.out i hlt
      have d0 := (hb.out.cell (p := ⟨g, i * 4, none⟩) hg).trans c0
      have d1 := (hb.out.cell (p := ⟨g, i * 4 + 1, none⟩) hg).trans c1
      have d2 := (hb.out.cell (p := ⟨g, i * 4 + 2, none⟩) hg).trans c2
      have d3 := (hb.out.cell (p := ⟨g, i * 4 + 3, none⟩) hg).trans c3
      have hS1 := keep ((hS.out ▸ sumQ_take gs i hlt : sumQ (gs.take (i + 1)) = S + gs[i].q))
      have b0 := sumQ_bound (gs.take i) (fun p hp => HO.out p (List.mem_of_mem_take hp))
      rw [← hS.out, List.length_take] at b0
      have b1 := (HO.out _ (List.getElem_mem hlt)).2.2.2.2.1
      clear c0 c1 c2 c3 hS
      generalize gs[i] = p at *
      have f := frun (fadd (k := 1) (a := S) (b := p.q) (by omega) (by omega) (by omega) (by omega))
      have hsz := hb.out.size
      clear b0 b1
      go_wp2_with fail
      go_roundw
      case rel => exact ⟨i + 1, S + p.q, by omega, by go_num, rfl, keep hS1.out.symm, keep (hb.out.trans (by go_grown))⟩
      case measure => simp [intOf]; omega
    · obtain rfl : i = gs.length := by omega
      go_wp2_with fail
      go_ret2
      exact ⟨by rw [hS.out, List.take_length]; rfl, hb.out⟩

theorem filter_take (f : GP → Bool) (gs : List GP) (i : Nat) (h : i < gs.length) : (gs.take (i + 1)).filter f = (gs.take i).filter f ++ (if f gs[i] then [gs[i]] else []) := by
  rw [List.take_succ_eq_append_getElem h, List.filter_append]
  congr 1
  cases hf : f gs[i] <;> simp [hf]

/-- How a place lies to the walls. -/
theorem side_cases (L H : Int) (h : Walls L H) (p : GP) (hp : p.ok) :
    (isOut L H p = true ∧ FloatKind.f32.format.order (wd single 3 p.x) (wd single 3 L) = some .lt) ∨
    (isOut L H p = true ∧ (FloatKind.f32.format.order (wd single 3 p.x) (wd single 3 L) = some .gt) ∧ FloatKind.f32.format.order (wd single 3 p.x) (wd single 3 H) = some .gt) ∨
    (isOut L H p = false ∧ (FloatKind.f32.format.order (wd single 3 p.x) (wd single 3 L) = some .gt ∨ FloatKind.f32.format.order (wd single 3 p.x) (wd single 3 L) = some .eq) ∧ (FloatKind.f32.format.order (wd single 3 p.x) (wd single 3 H) = some .lt ∨ FloatKind.f32.format.order (wd single 3 p.x) (wd single 3 H) = some .eq)) := by
  obtain ⟨h0, h1, h2⟩ := h
  obtain ⟨⟨x0, x1⟩, _⟩ := hp
  have oL := forder (k := 3) (a := p.x) (b := L) (by omega) (by omega) (by omega)
  have oH := forder (k := 3) (a := p.x) (b := H) (by omega) (by omega) (by omega)
  unfold isOut
  by_cases hL : p.x < L
  · exact .inl ⟨by simp [hL], by rw [oL, Int.compare_eq_lt.2 hL]⟩
  · by_cases hH : H < p.x
    · exact .inr (.inl ⟨by simp [hH], by rw [oL, Int.compare_eq_gt.2 (by omega)], by rw [oH, Int.compare_eq_gt.2 hH]⟩)
    · refine .inr (.inr ⟨by simp [hL, hH], ?_, ?_⟩)
      · rw [oL]
        rcases Int.lt_or_eq_of_le (show L ≤ p.x by omega) with h | h
        · exact .inl (by rw [Int.compare_eq_gt.2 h])
        · exact .inr (by rw [Int.compare_eq_eq.2 h.symm])
      · rw [oH]
        rcases Int.lt_or_eq_of_le (show p.x ≤ H by omega) with h | h
        · exact .inl (by rw [Int.compare_eq_lt.2 h])
        · exact .inr (by rw [Int.compare_eq_eq.2 h])

set_option maxHeartbeats 4000000 in
set_option maxRecDepth 20000 in
theorem TakeOutside_ok (L H : Int) (hw : Walls L H) (B : Nat) (v : Value) (gs : List GP) (w : World) (h : w.ownsRow B 50 4 v gs.length (psCells (gs.map GP.pd))) (hok : ∀ p ∈ gs, p.ok) (hN : gs.length ≤ 6) :
    Calls Try.prog 19 #[v, .float .f32 (wd single 3 L), .float .f32 (wd single 3 H)] w fun e w' => ∃ (A : Option Addr) (c : Nat), e = .returned (.tuple #[.slice A (gs.filter (fun p => !isOut L H p)).length c, .float .f32 (wd single 1 (sumQ (gs.filter (isOut L H)))), .bool true]) ∧ w'.ownsRow w.heap.size 50 4 (.slice A (gs.filter (fun p => !isOut L H p)).length c) (gs.filter (fun p => !isOut L H p)).length (psCells ((gs.filter (fun p => !isOut L H p)).map GP.pd)) ∧ Below w.heap.size w w' := by
  have AP := keep (Areg_ok B v gs w h hok hN)
  have AW := keep (fun w => areWalls_ok L H hw w)
  have SC := keep (fun p hp => side_cases L H hw p hp)
  have IF := keep (fun k a hk ha => (fun w => (fin_wd k a hk ha ▸ IsFinite32 (wd single k a) w : Calls Try.prog 56 #[.float .f32 (wd single k a)] w fun e w' => e = .returned (.bool true) ∧ ∃ m, w' = w.drewN m)))
  obtain ⟨A, c, rfl, hA⟩ := gown_form h
  have HA := keep hA
  have HO := keep hok
  clear h hA hok hw
  have z0 := wd_zero single 1
  obtain ⟨i0, hi0, hz0, hz1, hz2⟩ := info_parts infoParticle
  have HI := keep hi0
  have HZ0 := keep hz0
  have HZ1 := keep hz1
  have HZ2 := keep hz2
  clear hi0 hz0 hz1 hz2
  go_enter Try.func19, Try.ntmps19
  go_wp2_with fail
  refine AP.out.mono ?_
  rintro e w1 ⟨rfl, hb⟩
  have B1 := keep hb
  clear hb
  go_wp2_with fail
  refine (AW.out _).mono ?_
  rintro e w2 ⟨rfl, hb⟩
  have B2 := keep (B1.out.trans (hb.mono B1.out.size))
  clear hb
  go_wp2_with fail
  go_loopw [25, 9, 10] (fun s o t wr => ∃ (i : Nat) (D : Option Addr) (d : Nat) (ins : List GP) (S : Int), i ≤ gs.length ∧ s = .int .i64 i ∧ o = .slice D ins.length d ∧ t = .float .f32 (wd single 1 S) ∧ Kept (ins = (gs.take i).filter (fun p => !isOut L H p)) ∧ Kept (S = sumQ ((gs.take i).filter (isOut L H))) ∧ Kept (wr.ownsRow w.heap.size 50 4 (.slice D ins.length d) ins.length (psCells (ins.map GP.pd))) ∧ Kept (Below w.heap.size w wr)) (fun s _ _ _ => gs.length - (intOf s).toNat)
  case atStart => exact ⟨0, none, 0, [], 0, Nat.zero_le _, rfl, rfl, by rw [z0], keep (by simp), keep (by simp [sumQ]), keep (World.ownsRow_nil _ _ _ _), B2⟩
  case round =>
    clear AP AW B1 B2 z0
    obtain ⟨i, D, d, ins, S, hi, rfl, rfl, rfl, hins, hS, hown, hb⟩ := hrel
    have bnd := sumQ_bound ((gs.take i).filter (isOut L H)) (fun p hp => HO.out p (List.mem_of_mem_take (List.mem_filter.1 hp).1))
    rw [← hS.out] at bnd
    have bl := List.length_filter_le (isOut L H) (gs.take i)
    rw [List.length_take] at bl
    have bins : ins.length ≤ 6 := by
      rw [hins.out]
      have := List.length_filter_le (fun p => !isOut L H p) (gs.take i)
      rw [List.length_take] at this
      omega
    by_cases hlt : i < gs.length
    · obtain ⟨g, rfl, hg, c0, c1, c2, c3⟩ := HA.out i hlt
      have d0 := (hb.out.cell (p := ⟨g, i * 4, none⟩) hg).trans c0
      have d1 := (hb.out.cell (p := ⟨g, i * 4 + 1, none⟩) hg).trans c1
      have d2 := (hb.out.cell (p := ⟨g, i * 4 + 2, none⟩) hg).trans c2
      have d3 := (hb.out.cell (p := ⟨g, i * 4 + 3, none⟩) hg).trans c3
      have t1 := keep (filter_take (fun p => !isOut L H p) gs i hlt)
      have t2 := keep (filter_take (isOut L H) gs i hlt)
      have hp := HO.out _ (List.getElem_mem hlt)
      have sc := SC.out _ hp
      have bq := hp.2.2.2.2.1
      have HP := keep hp
      clear c0 c1 c2 c3 hp
      generalize gs[i] = p at *
      have hsz := hb.out.size
      rcases sc with ⟨o1, o2⟩ | ⟨o1, o2, o3⟩ | ⟨o1, o2, o3⟩
      · have O1 := keep o1
        have f := frun (fadd (k := 1) (a := S) (b := p.q) (by omega) (by omega) (by omega) (by omega))
        clear o1 bnd bl bins bq SC IF
        go_wp2_with fail
        go_roundw
        case rel => exact ⟨i + 1, D, d, ins, S + p.q, by omega, by go_num, rfl, rfl, keep (by
          have e := t1.out
          simp only [O1.out, Bool.not_true, Bool.false_eq_true, if_false, List.append_nil] at e
          rw [e]; exact hins.out), keep (by
          have e := t2.out
          simp only [O1.out, if_true] at e
          rw [e, hS.out]
          unfold sumQ
          rw [List.map_append, List.sum_append]
          simp), keep (owns_below hown.out (by go_grown)), keep (hb.out.trans (by go_grown))⟩
        case measure => simp [intOf]; omega
      · have O1 := keep o1
        have f := frun (fadd (k := 1) (a := S) (b := p.q) (by omega) (by omega) (by omega) (by omega))
        clear o1 bnd bl bins bq SC IF
        go_wp2_with fail
        go_roundw
        case rel => exact ⟨i + 1, D, d, ins, S + p.q, by omega, by go_num, rfl, rfl, keep (by
          have e := t1.out
          simp only [O1.out, Bool.not_true, Bool.false_eq_true, if_false, List.append_nil] at e
          rw [e]; exact hins.out), keep (by
          have e := t2.out
          simp only [O1.out, if_true] at e
          rw [e, hS.out]
          unfold sumQ
          rw [List.map_append, List.sum_append]
          simp), keep (owns_below hown.out (by go_grown)), keep (hb.out.trans (by go_grown))⟩
        case measure => simp [intOf]; omega
      · have O1 := keep o1
        clear o1 bnd bl bq SC IF
        rcases o2 with o2 | o2 <;> rcases o3 with o3 | o3
        all_goals
          go_wp2_with (at_builtin; go_loud (refine wpList_append_own_at _ rfl _ _ 40 rfl w.heap.size 50 i0 _ 4 24 Try.underlying40 HI.out HZ0.out HZ1.out HZ2.out rfl (by decide) (.slice D ins.length d) ins.length _ rfl (((hown.out.alloc _)).alloc _) ⟨wr.heap.size + 1, 0, none⟩ 1 1 (PD.cells ⟨wd single 3 p.x, wd single 3 p.y, wd single 3 p.u, wd single 3 p.v, wd single 1 p.q, wd single 2 p.m⟩) rfl rfl ?c1 ?c2 ?c3 ?c4 ?c5 ?_))
          case c1 =>
            have r := Has.made (wr.alloc (.cells #[.complex .f32 (wd single 3 p.x) (wd single 3 p.y), .complex .f32 (wd single 3 p.u) (wd single 3 p.v), .float .f32 (wd single 1 p.q), .float .f32 (wd single 2 p.m)] 50)) 50 #[.complex .f32 (wd single 3 p.x) (wd single 3 p.y), .complex .f32 (wd single 3 p.u) (wd single 3 p.v), .float .f32 (wd single 1 p.q), .float .f32 (wd single 2 p.m)]
            rw [World.size_alloc] at r
            intro j u hj
            exact four_new r j u hj
          case c2 =>
            intro u hu
            simp only [PD.cells, List.mem_cons, List.not_mem_nil, or_false] at hu
            rcases hu with rfl | rfl | rfl | rfl <;> rfl
          case c3 => unfold maxLen; omega
          case c4 => omega
          case c5 => first | omega | (simp only [World.size_alloc]; omega)
          intro v' w5 hown' hgrow _ _
          obtain ⟨g', cap', rfl, hB', hlt'⟩ := hown'.form (by omega)
          have hL := hown.out.lt
          have bX : Below w.heap.size _ w5 := (Below.refl w.heap.size _).grown hgrow (by simp only [World.size_alloc]; omega) (fun b e => (hL b e).1)
          have B6 := keep (((hb.out.alloc (by omega) (.cells #[.complex .f32 (wd single 3 p.x) (wd single 3 p.y), .complex .f32 (wd single 3 p.u) (wd single 3 p.v), .float .f32 (wd single 1 p.q), .float .f32 (wd single 2 p.m)] 50)).alloc (by simp only [World.size_alloc]; omega) (.cells #[.complex .f32 (wd single 3 p.x) (wd single 3 p.y), .complex .f32 (wd single 3 p.u) (wd single 3 p.v), .float .f32 (wd single 1 p.q), .float .f32 (wd single 2 p.m)] 50)).trans bX)
          have OW := keep hown'
          clear hown' hgrow bX hL
          go_wp2_with fail
          go_roundw
          case rel => exact ⟨i + 1, _, _, ins ++ [p], S, by omega, by go_num, by rw [List.length_append]; rfl, rfl, keep (by
            have e := t1.out
            simp only [O1.out, Bool.not_false, if_true] at e
            rw [e, ← hins.out]), keep (by
            have e := t2.out
            simp only [O1.out, Bool.false_eq_true, if_false, List.append_nil] at e
            rw [e]; exact hS.out), keep (by
            have e := OW.out
            rw [List.map_append, psCells_append, List.length_append]
            exact e), B6⟩
          case measure => simp [intOf]; omega
    · obtain rfl : i = gs.length := by omega
      go_wp2_with fail
      refine (IF.out 1 S (by omega) (by omega) _).mono ?_
      rintro e w3 ⟨rfl, m, rfl⟩
      go_wp2_with fail
      have e1 := hins.out
      have e2 := hS.out
      rw [List.take_length] at e1 e2
      subst e1
      subst e2
      exact bodyPost_ret (by simp [results, Try.results19, go_sem]) rfl ⟨D, d, rfl, owns_below hown.out (Below.drewN _ _ _), Below.drewN_of hb.out _⟩
end Go.Proofs.Ytmnpijhnfdiomaa
