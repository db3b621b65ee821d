/- Contract: a drawn list of particles. -/
import Derived.Test.YtdonmboidpppmaaHa
import Derived.Test.YtdonmboidpppmaaGg
import Derived.Maps.AppendAt
import Derived.Deep.AppendLies
namespace Go.Proofs.Ytdonmboidpppmaa
open Go.RowKit Go.Sort Ieee
set_option linter.unusedSimpArgs false

theorem own_byG {w w' : World} {B e n g : Nat} {v : Value} {xs : List Value} {size : Nat} (h : w.ownsRow B e size v n xs) (hg : w.grownBy w' (some g)) (hB : g < B) : w'.ownsRow B e size v n xs :=
  h.kept hg (.inr fun e => by have := (h.lt g e).1; omega)

theorem infoParticle : (Try.prog.info? 41).map (fun i => (i.zero, i.size, i.bytes)) = some (some (.agg #[.complex .f32 0 0, .complex .f32 0 0, .float .f32 0, .float .f32 0]), 4, 24) := by kernel_rfl
theorem four_new {w : World} {g : Nat} {t : TypeId} {x0 x1 x2 x3 : Value} (h : Has w g t #[x0, x1, x2, x3]) : ∀ j u, [x0, x1, x2, x3][j]? = some u → w.cell? ((⟨g, 0, none⟩ : Addr).add j) = some u := by
  intro j u hj
  rw [Addr.add_lit, Nat.zero_add, h.cells]
  simpa using hj

theorem gb_row (w : World) (g o : Nat) (u : Value) : w.grownBy (w.setCell ⟨g, o, none⟩ u) (some g) :=
  ⟨rfl, rfl, rfl, by simp [World.setCell], fun k _ hne => Below.heap_setCell w ⟨g, o, none⟩ u k (fun e => hne (by rw [e]))⟩
theorem psCells_append (a b : List PD) : psCells (a ++ b) = psCells a ++ psCells b := List.flatMap_append ..

set_option maxHeartbeats 1000000 in
theorem one_ok (g : Nat) (a : Option Addr) (n c K : Nat) (w : World) (h : Drawn w g a n c K) (hK : K ≤ 1000000) :
    Calls Try.prog 33 #[.pointer (some ⟨g, 0, none⟩), .int .i64 2] w fun e w' => ∃ b : Bool, e = .returned (.bool b) ∧ Drawn w' g a n c (K + 1) ∧ w.grownBy w' (some g) := by
  have H := keep (pick_ok 2 g a n c K w h hK (by omega) (by omega))
  clear h
  go_enter Try.func33, Try.ntmps33
  go_wp2_with fail
  refine H.out.mono ?_
  rintro e w' ⟨r, hr, rfl, hd, hg⟩
  have HD := keep hd
  have HG := keep hg
  clear hd hg
  go_wp2_with fail
  go_ret
  exact ⟨_, rfl, HD.out, HG.out⟩
set_option maxHeartbeats 2000000 in
set_option maxRecDepth 20000 in
theorem R8List_ok (a : Option Addr) (n c : Nat) (w : World) (hb : Bytes w a n) :
    Calls Try.prog 7 #[.slice a n c] w fun e w' => ∃ (gs : List GP) (v : Value), gs.length ≤ 6 ∧ (∀ p ∈ gs, p.ok) ∧ e = .returned v ∧ w'.ownsRow (w.heap.size + 1) 41 4 v gs.length (psCells (gs.map GP.pd)) ∧ Below w.heap.size w w' := by
  have FR := keep (l00From_ok a n c w hb)
  have PK := keep (fun w1 h => pick_ok 7 w.heap.size a n c 0 w1 h (by omega) (by omega) (by omega))
  have DO := keep (fun K w1 h hK => l02DrawOne_any w.heap.size a n c K w1 h hK)
  have ON := keep (fun K w1 h hK => one_ok w.heap.size a n c K w1 h hK)
  clear hb
  go_enter Try.func7, Try.ntmps7
  go_wp2_with fail
  refine FR.out.mono ?_
  rintro e w1 ⟨rfl, hd, hb1⟩
  have D1 := keep (hd.alloc (.cells #[] 41))
  have R1 := keep (Has.made w1 41 #[])
  have B1 := keep (hb1.alloc hb1.size (.cells #[] 41))
  have z1 := hd.lt
  clear hd hb1
  go_wp2_with fail
  refine (PK.out _ D1.out).mono ?_
  rintro e w2 ⟨r, hr, rfl, hd, hg⟩
  have D2 := keep hd
  have R2 := keep (R1.out.byG hg (by intro e; injection e with e; omega))
  have B2 := keep (B1.out.grown hg B1.out.size (fun g e => by injection e with e; omega))
  clear hd hg
  go_wp2_with fail
  go_loopw [5, 4] (fun t s wr => ∃ (j : Nat) (gs : List GP) (A : Option Addr) (cp : Nat), j + gs.length ≤ 6 ∧ t = .int .i64 j ∧ s = .slice A gs.length cp ∧ Kept (∀ p ∈ gs, p.ok) ∧ Kept (wr.ownsRow (w.heap.size + 1) 41 4 (.slice A gs.length cp) gs.length (psCells (gs.map GP.pd))) ∧ Kept (Drawn wr w.heap.size a n c (1 + 7 * gs.length)) ∧ Kept (Below w.heap.size w wr)) (fun t _ _ => (intOf t).toNat)
  case atStart => exact ⟨r, [], _, _, by simp; omega, rfl, rfl, keep (fun p h => by cases h), keep ⟨rfl, .inr ⟨w1.heap.size, 0, #[], rfl, by omega, R2.out, Nat.le_refl _, by simp [maxLen], rfl, rfl⟩⟩, keep D2.out, B2⟩
  case round =>
    clear FR PK D1 R1 B1 D2 R2 B2
    obtain ⟨j, gs, A, cp, hj, rfl, rfl, hok, ho, hd, hbr⟩ := hrel
    by_cases hlt : 0 < j
    · have hi : ((0 : Int) < (j : Int)) := by omega
      go_wp2_with fail
      refine (DO.out _ _ hd.out (by omega)).mono ?_
      rintro e w3 ⟨p, hp, rfl, hd3, hg3⟩
      have D3 := keep (hd3.alloc (.cells #[.complex .f32 (wd single 3 p.x) (wd single 3 p.y), .complex .f32 (wd single 3 p.u) (wd single 3 p.v), .float .f32 (wd single 1 p.q), .float .f32 (wd single 2 p.m)] 41))
      have O3 := keep ((own_byG ho.out hg3 (by omega)).alloc (.cells #[.complex .f32 (wd single 3 p.x) (wd single 3 p.y), .complex .f32 (wd single 3 p.u) (wd single 3 p.v), .float .f32 (wd single 1 p.q), .float .f32 (wd single 2 p.m)] 41))
      have B3 := keep ((hbr.out.grown hg3 hbr.out.size (fun g e => by injection e with e; omega)).alloc (by have := hd3.lt; omega) (.cells #[.complex .f32 (wd single 3 p.x) (wd single 3 p.y), .complex .f32 (wd single 3 p.u) (wd single 3 p.v), .float .f32 (wd single 1 p.q), .float .f32 (wd single 2 p.m)] 41))
      have P3 := keep (Has.made w3 41 #[.complex .f32 (wd single 3 p.x) (wd single 3 p.y), .complex .f32 (wd single 3 p.u) (wd single 3 p.v), .float .f32 (wd single 1 p.q), .float .f32 (wd single 2 p.m)])
      have z3 := hd3.lt
      have L3 := keep (fun k e => ((own_byG ho.out hg3 (by omega)).lt k e).2)
      obtain ⟨i0, hi0, hz0, hz1, hz2⟩ := info_parts infoParticle
      have HI := keep hi0
      have HZ0 := keep hz0
      have HZ1 := keep hz1
      have HZ2 := keep hz2
      clear hi0 hz0 hz1 hz2
      unfold GP.agg
      clear hd3 hg3 DO hd ho hbr
      by_cases hz : gs.length = 0
      · clear ON
        have hzd : decide (0 < gs.length) = false := decide_eq_false (by omega)
        have HZ := keep hz
        clear hz
        go_wp2_with (at_builtin; go_loud (refine wpList_append_own_at _ rfl _ _ 27 rfl (w.heap.size + 1) 41 i0 _ 4 24 Try.underlying27 HI.out HZ0.out HZ1.out HZ2.out rfl (by decide) (.slice A gs.length cp) gs.length _ rfl (O3.out.alloc _) ⟨w3.heap.size + 1, 0, none⟩ 1 1 (PD.cells ⟨wd single 3 p.x, wd single 3 p.y, wd single 3 p.u, wd single 3 p.v, wd single 1 p.q, wd single 2 p.m⟩) rfl rfl ?c1 ?c2 ?c3 ?c4 ?c5 ?_))
        case c1 =>
          have r := Has.made (w3.alloc (.cells #[.complex .f32 (wd single 3 p.x) (wd single 3 p.y), .complex .f32 (wd single 3 p.u) (wd single 3 p.v), .float .f32 (wd single 1 p.q), .float .f32 (wd single 2 p.m)] 41)) 41 #[.complex .f32 (wd single 3 p.x) (wd single 3 p.y), .complex .f32 (wd single 3 p.u) (wd single 3 p.v), .float .f32 (wd single 1 p.q), .float .f32 (wd single 2 p.m)]
          rw [World.size_alloc] at r
          intro j u hj
          exact four_new r j u hj
        case c2 =>
          intro u hu
          simp only [PD.cells, List.mem_cons, List.not_mem_nil, or_false] at hu
          rcases hu with rfl | rfl | rfl | rfl <;> rfl
        case c3 => unfold maxLen; omega
        case c4 => omega
        case c5 => first | omega | (simp only [World.size_alloc]; omega)
        intro v' w5 hown' hgrow _ _
        obtain ⟨g', cap', rfl, hB', hlt'⟩ := hown'.form (by omega)
        have hL := O3.out.lt
        have bX : Below (w.heap.size + 1) _ w5 := (Below.refl (w.heap.size + 1) _).grown hgrow (by simp only [World.size_alloc, World.size_setCell]; omega) (fun b e => (hL b e).1)
        have D6 := keep ((D3.out.alloc _).later bX (by omega))
        have B6 := keep ((B3.out.alloc (by first | omega | (simp only [World.size_alloc, World.size_setCell]; omega)) _).trans (bX.mono (by omega)))
        have OW := keep hown'
        clear hown' hgrow bX hL
        go_wp2_with fail
        go_roundw
        case rel => exact ⟨j - 1, gs ++ [p], _, _, by rw [List.length_append]; show j - 1 + (gs.length + 1) ≤ 6; omega, by go_num, by rw [List.length_append]; rfl, keep (fun p0 h0 => by
          rcases List.mem_append.1 h0 with h1 | h1
          · exact hok.out _ h1
          · rw [List.mem_singleton.1 h1]; exact hp), keep (by
          have e := OW.out
          rw [List.map_append, psCells_append, List.length_append]
          exact e), keep (D6.out.mono (by rw [List.length_append]; show _ ≤ 1 + 7 * (gs.length + 1); omega)), B6⟩
        case measure => simp [intOf]; omega
      · have hzd : decide (0 < gs.length) = true := decide_eq_true (by omega)
        have HZ := keep hz
        clear hz
        go_wp2_with fail
        refine (ON.out _ _ D3.out (by omega)).mono ?_
        rintro e w4 ⟨b, rfl, hd4, hg4⟩
        have P4 := keep (P3.out.byG hg4 (by intro e; injection e with e; omega))
        have O4 := keep (own_byG O3.out hg4 (by omega))
        have B4 := keep (B3.out.grown hg4 B3.out.size (fun g e => by injection e with e; omega))
        have D4 := keep hd4
        have z4 := P4.out.in_heap
        have c4 := P4.out.cells
        have u4 := P4.out.free
        clear hd4 hg4 P3 O3 B3 D3
        cases b
        · go_wp2_with (at_builtin; go_loud (refine wpList_append_own_at _ rfl _ _ 27 rfl (w.heap.size + 1) 41 i0 _ 4 24 Try.underlying27 HI.out HZ0.out HZ1.out HZ2.out rfl (by decide) (.slice A gs.length cp) gs.length _ rfl (O4.out.alloc _) ⟨w4.heap.size, 0, none⟩ 1 1 (PD.cells ⟨wd single 3 p.x, wd single 3 p.y, wd single 3 p.u, wd single 3 p.v, wd single 1 p.q, wd single 2 p.m⟩) rfl rfl ?c1 ?c2 ?c3 ?c4 ?c5 ?_))
          case c1 =>
            have r := Has.made w4 41 #[.complex .f32 (wd single 3 p.x) (wd single 3 p.y), .complex .f32 (wd single 3 p.u) (wd single 3 p.v), .float .f32 (wd single 1 p.q), .float .f32 (wd single 2 p.m)]
            (try simp only [World.size_alloc, World.size_setCell] at r)
            intro j u hj
            exact four_new r j u hj
          case c2 =>
            intro u hu
            simp only [PD.cells, List.mem_cons, List.not_mem_nil, or_false] at hu
            rcases hu with rfl | rfl | rfl | rfl <;> rfl
          case c3 => unfold maxLen; omega
          case c4 => omega
          case c5 => first | omega | (simp only [World.size_alloc, World.size_setCell]; omega)
          intro v' w5 hown' hgrow _ _
          obtain ⟨g', cap', rfl, hB', hlt'⟩ := hown'.form (by omega)
          have hL := O4.out.lt
          have bX : Below (w.heap.size + 1) _ w5 := (Below.refl (w.heap.size + 1) _).grown hgrow (by simp only [World.size_alloc, World.size_setCell]; omega) (fun b e => (hL b e).1)
          have D6 := keep ((D4.out.alloc _).later bX (by omega))
          have B6 := keep ((B4.out.alloc (by first | omega | (simp only [World.size_alloc, World.size_setCell]; omega)) _).trans (bX.mono (by omega)))
          have OW := keep hown'
          clear hown' hgrow bX hL
          go_wp2_with fail
          go_roundw
          case rel => exact ⟨j - 1, gs ++ [p], _, _, by rw [List.length_append]; show j - 1 + (gs.length + 1) ≤ 6; omega, by go_num, by rw [List.length_append]; rfl, keep (fun p0 h0 => by
            rcases List.mem_append.1 h0 with h1 | h1
            · exact hok.out _ h1
            · rw [List.mem_singleton.1 h1]; exact hp), keep (by
            have e := OW.out
            rw [List.map_append, psCells_append, List.length_append]
            exact e), keep (D6.out.mono (by rw [List.length_append]; show _ ≤ 1 + 7 * (gs.length + 1); omega)), B6⟩
          case measure => simp [intOf]; omega
        · obtain ⟨m, hm⟩ : ∃ m, gs.length = m + 1 := ⟨gs.length - 1, by have := HZ.out; omega⟩
          have hmm : m < gs.length := by omega
          obtain ⟨g, rfl⟩ : ∃ g, A = some ⟨g, 0, none⟩ := by
            rcases O4.out.2 with ⟨_, hn⟩ | ⟨g, cap, cur, e, _⟩
            · omega
            · injection e with e1; exact ⟨g, e1⟩
          have hgB := O4.out.lt g rfl
          obtain ⟨q, hq, cq⟩ : ∃ q : GP, q.ok ∧ w4.cell? ⟨g, m * 4, none⟩ = some (.complex .f32 (wd single 3 q.x) (wd single 3 q.y)) := ⟨gs[m], hok.out _ (List.getElem_mem hmm), owns_cell O4.out (by
            have := psCells_at (gs.map GP.pd) m (by simpa using hmm) 0 (by omega)
            rw [Nat.add_zero] at this
            rw [this, List.getElem_map]
            rfl)⟩
          have HQ := keep hq
          have P5 := keep (P4.out.written 0 (.complex .f32 (wd single 3 q.x) (wd single 3 q.y)))
          have O5 := keep (O4.out.kept (gb_row w4 w3.heap.size 0 (.complex .f32 (wd single 3 q.x) (wd single 3 q.y))) (.inr fun e => by have := L3.out _ e; omega))
          clear hmm hq HZ hzd
          have OM : Kept ((w4.setCell ⟨w3.heap.size, 0, none⟩ (.complex .f32 (wd single 3 q.x) (wd single 3 q.y))).ownsRow (w.heap.size + 1) 41 4 (.slice (some ⟨g, 0, none⟩) (m + 1) cp) (m + 1) (psCells (gs.map GP.pd))) := keep (hm ▸ O5.out)
          have c5 := P5.out.cells
          have u5 := P5.out.free
          have D5 := keep (D4.out.later ((Below.refl (w.heap.size + 1) w4).setCell (p := ⟨w3.heap.size, 0, none⟩) (by show _ ≤ w3.heap.size; omega) (.complex .f32 (wd single 3 q.x) (wd single 3 q.y))) (by omega))
          have B5 := keep (B4.out.setCell (p := ⟨w3.heap.size, 0, none⟩) (by show _ ≤ w3.heap.size; omega) (.complex .f32 (wd single 3 q.x) (wd single 3 q.y)))
          go_wp2_with (at_builtin; go_loud (refine wpList_append_own_at _ rfl _ _ 27 rfl (w.heap.size + 1) 41 i0 _ 4 24 Try.underlying27 HI.out HZ0.out HZ1.out HZ2.out rfl (by decide) (.slice (some ⟨g, 0, none⟩) (m + 1) cp) (m + 1) _ rfl (OM.out.alloc _) ⟨w4.heap.size, 0, none⟩ 1 1 (PD.cells ⟨wd single 3 q.x, wd single 3 q.y, wd single 3 p.u, wd single 3 p.v, wd single 1 p.q, wd single 2 p.m⟩) rfl rfl ?c1 ?c2 ?c3 ?c4 ?c5 ?_))
          case c1 =>
            have r := Has.made (w4.setCell ⟨w3.heap.size, 0, none⟩ (.complex .f32 (wd single 3 q.x) (wd single 3 q.y))) 41 #[.complex .f32 (wd single 3 q.x) (wd single 3 q.y), .complex .f32 (wd single 3 p.u) (wd single 3 p.v), .float .f32 (wd single 1 p.q), .float .f32 (wd single 2 p.m)]
            (try simp only [World.size_alloc, World.size_setCell] at r)
            intro j u hj
            exact four_new r j u hj
          case c2 =>
            intro u hu
            simp only [PD.cells, List.mem_cons, List.not_mem_nil, or_false] at hu
            rcases hu with rfl | rfl | rfl | rfl <;> rfl
          case c3 => unfold maxLen; omega
          case c4 => omega
          case c5 => first | omega | (simp only [World.size_alloc, World.size_setCell]; omega)
          intro v' w5 hown' hgrow _ _
          obtain ⟨g', cap', rfl, hB', hlt'⟩ := hown'.form (by omega)
          have hL := OM.out.lt
          have bX : Below (w.heap.size + 1) _ w5 := (Below.refl (w.heap.size + 1) _).grown hgrow (by simp only [World.size_alloc, World.size_setCell]; omega) (fun b e => (hL b e).1)
          have D6 := keep ((D5.out.alloc _).later bX (by omega))
          have B6 := keep ((B5.out.alloc (by first | omega | (simp only [World.size_alloc, World.size_setCell]; omega)) _).trans (bX.mono (by omega)))
          have OW := keep hown'
          clear hown' hgrow bX hL
          go_wp2_with fail
          go_roundw
          case rel => exact ⟨j - 1, gs ++ [⟨q.x, q.y, p.u, p.v, p.q, p.m⟩], _, _, by rw [List.length_append]; show j - 1 + (gs.length + 1) ≤ 6; omega, by go_num, by rw [List.length_append, hm]; rfl, keep (fun p0 h0 => by
            rcases List.mem_append.1 h0 with h1 | h1
            · exact hok.out _ h1
            · rw [List.mem_singleton.1 h1]; exact ⟨HQ.out.1, HQ.out.2.1, hp.2.2⟩), keep (by
            have e := OW.out
            rw [List.map_append, psCells_append, List.length_append, hm]
            exact e), keep (D6.out.mono (by rw [List.length_append]; show _ ≤ 1 + 7 * (gs.length + 1); omega)), B6⟩
          case measure => simp [intOf]; omega
    · obtain rfl : j = 0 := by omega
      go_wp2_with fail
      go_ret
      exact ⟨gs, _, by omega, hok.out, rfl, ho.out, hbr.out⟩
end Go.Proofs.Ytdonmboidpppmaa
