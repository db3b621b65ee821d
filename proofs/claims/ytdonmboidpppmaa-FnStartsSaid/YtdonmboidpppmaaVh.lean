/- Contracts: all(list, do) for the closures of LeapAll, BackAll and StartBack: each particle becomes what the closure makes of it. Contracts: LeapAll, BackAll and their closures; RunLeaps, by a chain of lists. -/
import Derived.Test.YtdonmboidpppmaaHg
import Derived.Test.YtdonmboidpppmaaVf
namespace Go.Proofs.Ytdonmboidpppmaa
open Go.RowKit Go.Sort Ieee
set_option linter.unusedSimpArgs false
set_option linter.unusedVariables false

theorem mixP_write (cur : Array Value) (qs : List PD) (cap i : Nat) (hi : i < qs.length) (hc : qs.length ≤ cap) (hs : cur.size = cap * 4) (ht : cur.toList.take (i * 4) = psCells (qs.take i)) :
    ((((cur.setIfInBounds (i * 4) (.complex .f32 qs[i].a qs[i].b)).setIfInBounds (i * 4 + 1) (.complex .f32 qs[i].c qs[i].d)).setIfInBounds (i * 4 + 2) (.float .f32 qs[i].q)).setIfInBounds (i * 4 + 3) (.float .f32 qs[i].m)).toList.take ((i + 1) * 4) = psCells (qs.take (i + 1)) := by
  rw [take_set4 cur (i * 4) _ _ _ _ (by omega) _ (by omega), ht, List.take_succ_eq_append_getElem hi, psCells_append]
  rfl

set_option maxHeartbeats 4000000 in
set_option maxRecDepth 20000 in
theorem ball_LeapAll (B : Nat) (v : Value) (ps qs : List PD) (hl : qs.length = ps.length) (b0 b1 b2 b3 b4 : Nat) (w : World) (h : w.ownsRow B 41 4 v ps.length (psCells ps)) (hN : ps.length ≤ 64)
    (step : ∀ (i : Nat) (hi : i < ps.length) (hq : i < qs.length) (w' : World), Below w.heap.size w w' → Calls Try.prog 52 #[.agg #[.complex .f32 ps[i].a ps[i].b, .complex .f32 ps[i].c ps[i].d, .float .f32 ps[i].q, .float .f32 ps[i].m], .pointer (some ⟨b0, 0, none⟩), .pointer (some ⟨b1, 0, none⟩), .pointer (some ⟨b2, 0, none⟩), .pointer (some ⟨b3, 0, none⟩), .pointer (some ⟨b4, 0, none⟩)] w' fun e w'' => e = .returned (.tuple #[.agg #[.complex .f32 qs[i].a qs[i].b, .complex .f32 qs[i].c qs[i].d, .float .f32 qs[i].q, .float .f32 qs[i].m], .bool true]) ∧ Below w'.heap.size w' w'') :
    Calls Try.prog 39 #[v, .func (.func 52) #[] #[.pointer (some ⟨b0, 0, none⟩), .pointer (some ⟨b1, 0, none⟩), .pointer (some ⟨b2, 0, none⟩), .pointer (some ⟨b3, 0, none⟩), .pointer (some ⟨b4, 0, none⟩)]] w fun e w' => ∃ (A : Option Addr) (c : Nat), e = .returned (.tuple #[.slice A ps.length c, .bool true]) ∧ w'.ownsRow w.heap.size 41 4 (.slice A ps.length c) ps.length (psCells qs) ∧ Below w.heap.size w w' := by
  have CL := keep (Clone_ok B v ps w h (by omega))
  have ST := keep step
  have HL := keep hl
  obtain ⟨A, c, rfl⟩ := own_slice h
  clear h step hl
  go_enter Try.func39, Try.ntmps39
  go_wp2_with fail
  refine CL.out.mono ?_
  rintro e w4 ⟨D, d, rfl, hown, hb⟩
  have OW := keep hown
  have B4 := keep hb
  clear hown hb CL
  go_wp2_with fail
  rcases OW.out.2 with ⟨he, hn⟩ | ⟨g, cap, cur, he, hB, hg, hnc, hcm, hcs, htake⟩
  · obtain rfl : ps = [] := List.eq_nil_of_length_eq_zero hn
    obtain rfl : qs = [] := List.eq_nil_of_length_eq_zero HL.out
    injection he with he1 he2 he3
    subst he1
    subst he3
    refine wp_loop_rounds 1 ?_
    rw [rounds_succ]
    go_wp2_with fail
    go_ret2
    exact ⟨none, 0, rfl, World.ownsRow_nil _ _ _ _, B4.out⟩
  · injection he with he1 he2 he3
    subst he1
    subst he3
    go_loopw [15] (fun s wr => ∃ (i : Nat) (cur : Array Value), i ≤ ps.length ∧ s = .int .i64 i ∧ Has wr g 41 cur ∧ Kept (cur.size = d * 4) ∧ Kept (cur.toList.take (i * 4) = psCells (qs.take i)) ∧ Kept (∀ j, i * 4 ≤ j → j < ps.length * 4 → cur[j]? = (psCells ps)[j]?) ∧ Kept (Below w.heap.size w wr)) (fun s _ => ps.length - (intOf s).toNat)
    case atStart => exact ⟨0, cur, Nat.zero_le _, rfl, hg, keep hcs, keep (by simp [psCells]), keep (fun j _ hj => by
      rw [← htake, List.getElem?_take_of_lt hj, Array.getElem?_toList]), B4⟩
    case round =>
      clear B4 OW hg htake hcs
      obtain ⟨i, cur2, hi, rfl, hh, hsz, htk, hrest, hb⟩ := hrel
      by_cases hlt : i < ps.length
      · have h4 : ∀ j u, j < 4 → ps[i].cells[j]? = some u → wr.cell? ⟨g, i * 4 + j, none⟩ = some u := fun j u hj hu => by
          rw [hh.cells, hrest.out (i * 4 + j) (by omega) (by omega), psCells_at _ i hlt j hj]
          exact hu
        have c0 : wr.cell? ⟨g, i * 4, none⟩ = some (.complex .f32 ps[i].a ps[i].b) := h4 0 _ (by omega) rfl
        have c1 : wr.cell? ⟨g, i * 4 + 1, none⟩ = some (.complex .f32 ps[i].c ps[i].d) := h4 1 _ (by omega) rfl
        have c2 : wr.cell? ⟨g, i * 4 + 2, none⟩ = some (.float .f32 ps[i].q) := h4 2 _ (by omega) rfl
        have c3 : wr.cell? ⟨g, i * 4 + 3, none⟩ = some (.float .f32 ps[i].m) := h4 3 _ (by omega) rfl
        have hq : i < qs.length := by have := HL.out; omega
        have hmx := keep (mixP_write cur2 qs d i hq (by have := HL.out; omega) hsz.out htk.out)
        have STi := keep (fun w' hb' => ST.out i hlt hq w' hb')
        have hgr := hh.in_heap
        have H0 := keep hh
        clear h4 hh
        generalize ps[i] = p at *
        generalize hqq : qs[i] = r at *
        clear hqq
        go_wp2_with fail
        have B5a := keep (hb.out.alloc hb.out.size (.cells #[.complex .f32 p.a p.b, .complex .f32 p.c p.d, .float .f32 p.q, .float .f32 p.m] 41))
        refine (STi.out _ B5a.out).mono ?_
        rintro e w5 ⟨rfl, hb5⟩
        have H5 := keep ((H0.out.beside (.cells #[.complex .f32 p.a p.b, .complex .f32 p.c p.d, .float .f32 p.q, .float .f32 p.m] 41)).after hb5)
        have B5 := keep (B5a.out.trans (hb5.mono B5a.out.size))
        have h5 := H5.out
        have e0 := h5.cells
        have e1 := h5.free
        have zc : i * 4 + 3 < cur2.size := by have := hsz.out; omega
        have hcell : ∀ j, j < 4 → ∃ x, w5.cell? ⟨g, i * 4 + j, none⟩ = some x := fun j hj => by
          have hb : i * 4 + j < cur2.size := by omega
          exact ⟨cur2[i * 4 + j], (e0 _).trans (Array.getElem?_eq_getElem hb)⟩
        obtain ⟨x0, d0⟩ := hcell 0 (by omega)
        obtain ⟨x1, d1⟩ := hcell 1 (by omega)
        obtain ⟨x2, d2⟩ := hcell 2 (by omega)
        obtain ⟨x3, d3⟩ := hcell 3 (by omega)
        rw [Nat.add_zero] at d0
        have hg5 := h5.in_heap
        have H6 := keep (Has.beside ((((h5.written (i * 4) (.complex .f32 r.a r.b)).written (i * 4 + 1) (.complex .f32 r.c r.d)).written (i * 4 + 2) (.float .f32 r.q)).written (i * 4 + 3) (.float .f32 r.m)) (.cells #[.complex .f32 r.a r.b, .complex .f32 r.c r.d, .float .f32 r.q, .float .f32 r.m] 41))
        have hwg : w.heap.size ≤ g := hB
        have b6 := (((B5.out.setCell (p := ⟨g, i * 4, none⟩) hwg (.complex .f32 r.a r.b)).setCell (p := ⟨g, i * 4 + 1, none⟩) hwg (.complex .f32 r.c r.d)).setCell (p := ⟨g, i * 4 + 2, none⟩) hwg (.float .f32 r.q)).setCell (p := ⟨g, i * 4 + 3, none⟩) hwg (.float .f32 r.m)
        have B6 := keep (b6.alloc b6.size (.cells #[.complex .f32 r.a r.b, .complex .f32 r.c r.d, .float .f32 r.q, .float .f32 r.m] 41))
        clear b6
        have S6 := keep (show (((((cur2.setIfInBounds (i * 4) (.complex .f32 r.a r.b)).setIfInBounds (i * 4 + 1) (.complex .f32 r.c r.d)).setIfInBounds (i * 4 + 2) (.float .f32 r.q)).setIfInBounds (i * 4 + 3) (.float .f32 r.m)).size = d * 4) from by simp [hsz.out])
        have R6 := keep (show ∀ j, (i + 1) * 4 ≤ j → j < ps.length * 4 → ((((cur2.setIfInBounds (i * 4) (.complex .f32 r.a r.b)).setIfInBounds (i * 4 + 1) (.complex .f32 r.c r.d)).setIfInBounds (i * 4 + 2) (.float .f32 r.q)).setIfInBounds (i * 4 + 3) (.float .f32 r.m))[j]? = (psCells ps)[j]? from fun j h1 h2 => by
          rw [set4_far _ _ _ _ _ _ _ _ _ j (by omega) (by omega) (by omega) (by omega)]
          exact hrest.out j (by omega) h2)
        clear hcell h5 e0 H5 B5 B5a H0 hrest htk hsz STi
        go_wp2_with fail
        go_roundw
        case rel => exact ⟨i + 1, _, by omega, by go_num, H6.out, S6, hmx, R6, B6⟩
        case measure => simp [intOf]; omega
      · obtain rfl : i = ps.length := by omega
        have t0 := htk.out
        have hll := HL.out
        rw [List.take_of_length_le (l := qs) (by omega)] at t0
        have OW2 := keep (show wr.ownsRow w.heap.size 41 4 (.slice (some ⟨g, 0, none⟩) ps.length d) ps.length (psCells qs) from ⟨by rw [psCells_length, hll], .inr ⟨g, d, cur2, rfl, hB, hh, hnc, hcm, hsz.out, t0⟩⟩)
        clear t0 hh hll
        go_wp2_with fail
        go_ret2
        exact ⟨_, _, rfl, OW2.out, hb.out⟩

set_option maxHeartbeats 4000000 in
set_option maxRecDepth 20000 in
theorem ball_BackAll (B : Nat) (v : Value) (ps qs : List PD) (hl : qs.length = ps.length) (b0 b1 b2 b3 b4 : Nat) (w : World) (h : w.ownsRow B 41 4 v ps.length (psCells ps)) (hN : ps.length ≤ 64)
    (step : ∀ (i : Nat) (hi : i < ps.length) (hq : i < qs.length) (w' : World), Below w.heap.size w w' → Calls Try.prog 53 #[.agg #[.complex .f32 ps[i].a ps[i].b, .complex .f32 ps[i].c ps[i].d, .float .f32 ps[i].q, .float .f32 ps[i].m], .pointer (some ⟨b0, 0, none⟩), .pointer (some ⟨b1, 0, none⟩), .pointer (some ⟨b2, 0, none⟩), .pointer (some ⟨b3, 0, none⟩), .pointer (some ⟨b4, 0, none⟩)] w' fun e w'' => e = .returned (.tuple #[.agg #[.complex .f32 qs[i].a qs[i].b, .complex .f32 qs[i].c qs[i].d, .float .f32 qs[i].q, .float .f32 qs[i].m], .bool true]) ∧ Below w'.heap.size w' w'') :
    Calls Try.prog 39 #[v, .func (.func 53) #[] #[.pointer (some ⟨b0, 0, none⟩), .pointer (some ⟨b1, 0, none⟩), .pointer (some ⟨b2, 0, none⟩), .pointer (some ⟨b3, 0, none⟩), .pointer (some ⟨b4, 0, none⟩)]] w fun e w' => ∃ (A : Option Addr) (c : Nat), e = .returned (.tuple #[.slice A ps.length c, .bool true]) ∧ w'.ownsRow w.heap.size 41 4 (.slice A ps.length c) ps.length (psCells qs) ∧ Below w.heap.size w w' := by
  have CL := keep (Clone_ok B v ps w h (by omega))
  have ST := keep step
  have HL := keep hl
  obtain ⟨A, c, rfl⟩ := own_slice h
  clear h step hl
  go_enter Try.func39, Try.ntmps39
  go_wp2_with fail
  refine CL.out.mono ?_
  rintro e w4 ⟨D, d, rfl, hown, hb⟩
  have OW := keep hown
  have B4 := keep hb
  clear hown hb CL
  go_wp2_with fail
  rcases OW.out.2 with ⟨he, hn⟩ | ⟨g, cap, cur, he, hB, hg, hnc, hcm, hcs, htake⟩
  · obtain rfl : ps = [] := List.eq_nil_of_length_eq_zero hn
    obtain rfl : qs = [] := List.eq_nil_of_length_eq_zero HL.out
    injection he with he1 he2 he3
    subst he1
    subst he3
    refine wp_loop_rounds 1 ?_
    rw [rounds_succ]
    go_wp2_with fail
    go_ret2
    exact ⟨none, 0, rfl, World.ownsRow_nil _ _ _ _, B4.out⟩
  · injection he with he1 he2 he3
    subst he1
    subst he3
    go_loopw [15] (fun s wr => ∃ (i : Nat) (cur : Array Value), i ≤ ps.length ∧ s = .int .i64 i ∧ Has wr g 41 cur ∧ Kept (cur.size = d * 4) ∧ Kept (cur.toList.take (i * 4) = psCells (qs.take i)) ∧ Kept (∀ j, i * 4 ≤ j → j < ps.length * 4 → cur[j]? = (psCells ps)[j]?) ∧ Kept (Below w.heap.size w wr)) (fun s _ => ps.length - (intOf s).toNat)
    case atStart => exact ⟨0, cur, Nat.zero_le _, rfl, hg, keep hcs, keep (by simp [psCells]), keep (fun j _ hj => by
      rw [← htake, List.getElem?_take_of_lt hj, Array.getElem?_toList]), B4⟩
    case round =>
      clear B4 OW hg htake hcs
      obtain ⟨i, cur2, hi, rfl, hh, hsz, htk, hrest, hb⟩ := hrel
      by_cases hlt : i < ps.length
      · have h4 : ∀ j u, j < 4 → ps[i].cells[j]? = some u → wr.cell? ⟨g, i * 4 + j, none⟩ = some u := fun j u hj hu => by
          rw [hh.cells, hrest.out (i * 4 + j) (by omega) (by omega), psCells_at _ i hlt j hj]
          exact hu
        have c0 : wr.cell? ⟨g, i * 4, none⟩ = some (.complex .f32 ps[i].a ps[i].b) := h4 0 _ (by omega) rfl
        have c1 : wr.cell? ⟨g, i * 4 + 1, none⟩ = some (.complex .f32 ps[i].c ps[i].d) := h4 1 _ (by omega) rfl
        have c2 : wr.cell? ⟨g, i * 4 + 2, none⟩ = some (.float .f32 ps[i].q) := h4 2 _ (by omega) rfl
        have c3 : wr.cell? ⟨g, i * 4 + 3, none⟩ = some (.float .f32 ps[i].m) := h4 3 _ (by omega) rfl
        have hq : i < qs.length := by have := HL.out; omega
        have hmx := keep (mixP_write cur2 qs d i hq (by have := HL.out; omega) hsz.out htk.out)
        have STi := keep (fun w' hb' => ST.out i hlt hq w' hb')
        have hgr := hh.in_heap
        have H0 := keep hh
        clear h4 hh
        generalize ps[i] = p at *
        generalize hqq : qs[i] = r at *
        clear hqq
        go_wp2_with fail
        have B5a := keep (hb.out.alloc hb.out.size (.cells #[.complex .f32 p.a p.b, .complex .f32 p.c p.d, .float .f32 p.q, .float .f32 p.m] 41))
        refine (STi.out _ B5a.out).mono ?_
        rintro e w5 ⟨rfl, hb5⟩
        have H5 := keep ((H0.out.beside (.cells #[.complex .f32 p.a p.b, .complex .f32 p.c p.d, .float .f32 p.q, .float .f32 p.m] 41)).after hb5)
        have B5 := keep (B5a.out.trans (hb5.mono B5a.out.size))
        have h5 := H5.out
        have e0 := h5.cells
        have e1 := h5.free
        have zc : i * 4 + 3 < cur2.size := by have := hsz.out; omega
        have hcell : ∀ j, j < 4 → ∃ x, w5.cell? ⟨g, i * 4 + j, none⟩ = some x := fun j hj => by
          have hb : i * 4 + j < cur2.size := by omega
          exact ⟨cur2[i * 4 + j], (e0 _).trans (Array.getElem?_eq_getElem hb)⟩
        obtain ⟨x0, d0⟩ := hcell 0 (by omega)
        obtain ⟨x1, d1⟩ := hcell 1 (by omega)
        obtain ⟨x2, d2⟩ := hcell 2 (by omega)
        obtain ⟨x3, d3⟩ := hcell 3 (by omega)
        rw [Nat.add_zero] at d0
        have hg5 := h5.in_heap
        have H6 := keep (Has.beside ((((h5.written (i * 4) (.complex .f32 r.a r.b)).written (i * 4 + 1) (.complex .f32 r.c r.d)).written (i * 4 + 2) (.float .f32 r.q)).written (i * 4 + 3) (.float .f32 r.m)) (.cells #[.complex .f32 r.a r.b, .complex .f32 r.c r.d, .float .f32 r.q, .float .f32 r.m] 41))
        have hwg : w.heap.size ≤ g := hB
        have b6 := (((B5.out.setCell (p := ⟨g, i * 4, none⟩) hwg (.complex .f32 r.a r.b)).setCell (p := ⟨g, i * 4 + 1, none⟩) hwg (.complex .f32 r.c r.d)).setCell (p := ⟨g, i * 4 + 2, none⟩) hwg (.float .f32 r.q)).setCell (p := ⟨g, i * 4 + 3, none⟩) hwg (.float .f32 r.m)
        have B6 := keep (b6.alloc b6.size (.cells #[.complex .f32 r.a r.b, .complex .f32 r.c r.d, .float .f32 r.q, .float .f32 r.m] 41))
        clear b6
        have S6 := keep (show (((((cur2.setIfInBounds (i * 4) (.complex .f32 r.a r.b)).setIfInBounds (i * 4 + 1) (.complex .f32 r.c r.d)).setIfInBounds (i * 4 + 2) (.float .f32 r.q)).setIfInBounds (i * 4 + 3) (.float .f32 r.m)).size = d * 4) from by simp [hsz.out])
        have R6 := keep (show ∀ j, (i + 1) * 4 ≤ j → j < ps.length * 4 → ((((cur2.setIfInBounds (i * 4) (.complex .f32 r.a r.b)).setIfInBounds (i * 4 + 1) (.complex .f32 r.c r.d)).setIfInBounds (i * 4 + 2) (.float .f32 r.q)).setIfInBounds (i * 4 + 3) (.float .f32 r.m))[j]? = (psCells ps)[j]? from fun j h1 h2 => by
          rw [set4_far _ _ _ _ _ _ _ _ _ j (by omega) (by omega) (by omega) (by omega)]
          exact hrest.out j (by omega) h2)
        clear hcell h5 e0 H5 B5 B5a H0 hrest htk hsz STi
        go_wp2_with fail
        go_roundw
        case rel => exact ⟨i + 1, _, by omega, by go_num, H6.out, S6, hmx, R6, B6⟩
        case measure => simp [intOf]; omega
      · obtain rfl : i = ps.length := by omega
        have t0 := htk.out
        have hll := HL.out
        rw [List.take_of_length_le (l := qs) (by omega)] at t0
        have OW2 := keep (show wr.ownsRow w.heap.size 41 4 (.slice (some ⟨g, 0, none⟩) ps.length d) ps.length (psCells qs) from ⟨by rw [psCells_length, hll], .inr ⟨g, d, cur2, rfl, hB, hh, hnc, hcm, hsz.out, t0⟩⟩)
        clear t0 hh hll
        go_wp2_with fail
        go_ret2
        exact ⟨_, _, rfl, OW2.out, hb.out⟩

set_option maxHeartbeats 4000000 in
set_option maxRecDepth 20000 in
theorem ball_StartBack (B : Nat) (v : Value) (ps qs : List PD) (hl : qs.length = ps.length) (b0 b1 b2 b3 b4 : Nat) (w : World) (h : w.ownsRow B 41 4 v ps.length (psCells ps)) (hN : ps.length ≤ 64)
    (step : ∀ (i : Nat) (hi : i < ps.length) (hq : i < qs.length) (w' : World), Below w.heap.size w w' → Calls Try.prog 40 #[.agg #[.complex .f32 ps[i].a ps[i].b, .complex .f32 ps[i].c ps[i].d, .float .f32 ps[i].q, .float .f32 ps[i].m], .pointer (some ⟨b0, 0, none⟩), .pointer (some ⟨b1, 0, none⟩), .pointer (some ⟨b2, 0, none⟩), .pointer (some ⟨b3, 0, none⟩), .pointer (some ⟨b4, 0, none⟩)] w' fun e w'' => e = .returned (.tuple #[.agg #[.complex .f32 qs[i].a qs[i].b, .complex .f32 qs[i].c qs[i].d, .float .f32 qs[i].q, .float .f32 qs[i].m], .bool true]) ∧ Below w'.heap.size w' w'') :
    Calls Try.prog 39 #[v, .func (.func 40) #[] #[.pointer (some ⟨b0, 0, none⟩), .pointer (some ⟨b1, 0, none⟩), .pointer (some ⟨b2, 0, none⟩), .pointer (some ⟨b3, 0, none⟩), .pointer (some ⟨b4, 0, none⟩)]] w fun e w' => ∃ (A : Option Addr) (c : Nat), e = .returned (.tuple #[.slice A ps.length c, .bool true]) ∧ w'.ownsRow w.heap.size 41 4 (.slice A ps.length c) ps.length (psCells qs) ∧ Below w.heap.size w w' := by
  have CL := keep (Clone_ok B v ps w h (by omega))
  have ST := keep step
  have HL := keep hl
  obtain ⟨A, c, rfl⟩ := own_slice h
  clear h step hl
  go_enter Try.func39, Try.ntmps39
  go_wp2_with fail
  refine CL.out.mono ?_
  rintro e w4 ⟨D, d, rfl, hown, hb⟩
  have OW := keep hown
  have B4 := keep hb
  clear hown hb CL
  go_wp2_with fail
  rcases OW.out.2 with ⟨he, hn⟩ | ⟨g, cap, cur, he, hB, hg, hnc, hcm, hcs, htake⟩
  · obtain rfl : ps = [] := List.eq_nil_of_length_eq_zero hn
    obtain rfl : qs = [] := List.eq_nil_of_length_eq_zero HL.out
    injection he with he1 he2 he3
    subst he1
    subst he3
    refine wp_loop_rounds 1 ?_
    rw [rounds_succ]
    go_wp2_with fail
    go_ret2
    exact ⟨none, 0, rfl, World.ownsRow_nil _ _ _ _, B4.out⟩
  · injection he with he1 he2 he3
    subst he1
    subst he3
    go_loopw [15] (fun s wr => ∃ (i : Nat) (cur : Array Value), i ≤ ps.length ∧ s = .int .i64 i ∧ Has wr g 41 cur ∧ Kept (cur.size = d * 4) ∧ Kept (cur.toList.take (i * 4) = psCells (qs.take i)) ∧ Kept (∀ j, i * 4 ≤ j → j < ps.length * 4 → cur[j]? = (psCells ps)[j]?) ∧ Kept (Below w.heap.size w wr)) (fun s _ => ps.length - (intOf s).toNat)
    case atStart => exact ⟨0, cur, Nat.zero_le _, rfl, hg, keep hcs, keep (by simp [psCells]), keep (fun j _ hj => by
      rw [← htake, List.getElem?_take_of_lt hj, Array.getElem?_toList]), B4⟩
    case round =>
      clear B4 OW hg htake hcs
      obtain ⟨i, cur2, hi, rfl, hh, hsz, htk, hrest, hb⟩ := hrel
      by_cases hlt : i < ps.length
      · have h4 : ∀ j u, j < 4 → ps[i].cells[j]? = some u → wr.cell? ⟨g, i * 4 + j, none⟩ = some u := fun j u hj hu => by
          rw [hh.cells, hrest.out (i * 4 + j) (by omega) (by omega), psCells_at _ i hlt j hj]
          exact hu
        have c0 : wr.cell? ⟨g, i * 4, none⟩ = some (.complex .f32 ps[i].a ps[i].b) := h4 0 _ (by omega) rfl
        have c1 : wr.cell? ⟨g, i * 4 + 1, none⟩ = some (.complex .f32 ps[i].c ps[i].d) := h4 1 _ (by omega) rfl
        have c2 : wr.cell? ⟨g, i * 4 + 2, none⟩ = some (.float .f32 ps[i].q) := h4 2 _ (by omega) rfl
        have c3 : wr.cell? ⟨g, i * 4 + 3, none⟩ = some (.float .f32 ps[i].m) := h4 3 _ (by omega) rfl
        have hq : i < qs.length := by have := HL.out; omega
        have hmx := keep (mixP_write cur2 qs d i hq (by have := HL.out; omega) hsz.out htk.out)
        have STi := keep (fun w' hb' => ST.out i hlt hq w' hb')
        have hgr := hh.in_heap
        have H0 := keep hh
        clear h4 hh
        generalize ps[i] = p at *
        generalize hqq : qs[i] = r at *
        clear hqq
        go_wp2_with fail
        have B5a := keep (hb.out.alloc hb.out.size (.cells #[.complex .f32 p.a p.b, .complex .f32 p.c p.d, .float .f32 p.q, .float .f32 p.m] 41))
        refine (STi.out _ B5a.out).mono ?_
        rintro e w5 ⟨rfl, hb5⟩
        have H5 := keep ((H0.out.beside (.cells #[.complex .f32 p.a p.b, .complex .f32 p.c p.d, .float .f32 p.q, .float .f32 p.m] 41)).after hb5)
        have B5 := keep (B5a.out.trans (hb5.mono B5a.out.size))
        have h5 := H5.out
        have e0 := h5.cells
        have e1 := h5.free
        have zc : i * 4 + 3 < cur2.size := by have := hsz.out; omega
        have hcell : ∀ j, j < 4 → ∃ x, w5.cell? ⟨g, i * 4 + j, none⟩ = some x := fun j hj => by
          have hb : i * 4 + j < cur2.size := by omega
          exact ⟨cur2[i * 4 + j], (e0 _).trans (Array.getElem?_eq_getElem hb)⟩
        obtain ⟨x0, d0⟩ := hcell 0 (by omega)
        obtain ⟨x1, d1⟩ := hcell 1 (by omega)
        obtain ⟨x2, d2⟩ := hcell 2 (by omega)
        obtain ⟨x3, d3⟩ := hcell 3 (by omega)
        rw [Nat.add_zero] at d0
        have hg5 := h5.in_heap
        have H6 := keep (Has.beside ((((h5.written (i * 4) (.complex .f32 r.a r.b)).written (i * 4 + 1) (.complex .f32 r.c r.d)).written (i * 4 + 2) (.float .f32 r.q)).written (i * 4 + 3) (.float .f32 r.m)) (.cells #[.complex .f32 r.a r.b, .complex .f32 r.c r.d, .float .f32 r.q, .float .f32 r.m] 41))
        have hwg : w.heap.size ≤ g := hB
        have b6 := (((B5.out.setCell (p := ⟨g, i * 4, none⟩) hwg (.complex .f32 r.a r.b)).setCell (p := ⟨g, i * 4 + 1, none⟩) hwg (.complex .f32 r.c r.d)).setCell (p := ⟨g, i * 4 + 2, none⟩) hwg (.float .f32 r.q)).setCell (p := ⟨g, i * 4 + 3, none⟩) hwg (.float .f32 r.m)
        have B6 := keep (b6.alloc b6.size (.cells #[.complex .f32 r.a r.b, .complex .f32 r.c r.d, .float .f32 r.q, .float .f32 r.m] 41))
        clear b6
        have S6 := keep (show (((((cur2.setIfInBounds (i * 4) (.complex .f32 r.a r.b)).setIfInBounds (i * 4 + 1) (.complex .f32 r.c r.d)).setIfInBounds (i * 4 + 2) (.float .f32 r.q)).setIfInBounds (i * 4 + 3) (.float .f32 r.m)).size = d * 4) from by simp [hsz.out])
        have R6 := keep (show ∀ j, (i + 1) * 4 ≤ j → j < ps.length * 4 → ((((cur2.setIfInBounds (i * 4) (.complex .f32 r.a r.b)).setIfInBounds (i * 4 + 1) (.complex .f32 r.c r.d)).setIfInBounds (i * 4 + 2) (.float .f32 r.q)).setIfInBounds (i * 4 + 3) (.float .f32 r.m))[j]? = (psCells ps)[j]? from fun j h1 h2 => by
          rw [set4_far _ _ _ _ _ _ _ _ _ j (by omega) (by omega) (by omega) (by omega)]
          exact hrest.out j (by omega) h2)
        clear hcell h5 e0 H5 B5 B5a H0 hrest htk hsz STi
        go_wp2_with fail
        go_roundw
        case rel => exact ⟨i + 1, _, by omega, by go_num, H6.out, S6, hmx, R6, B6⟩
        case measure => simp [intOf]; omega
      · obtain rfl : i = ps.length := by omega
        have t0 := htk.out
        have hll := HL.out
        rw [List.take_of_length_le (l := qs) (by omega)] at t0
        have OW2 := keep (show wr.ownsRow w.heap.size 41 4 (.slice (some ⟨g, 0, none⟩) ps.length d) ps.length (psCells qs) from ⟨by rw [psCells_length, hll], .inr ⟨g, d, cur2, rfl, hB, hh, hnc, hcm, hsz.out, t0⟩⟩)
        clear t0 hh hll
        go_wp2_with fail
        go_ret2
        exact ⟨_, _, rfl, OW2.out, hb.out⟩
end Go.Proofs.Ytdonmboidpppmaa
namespace Go.Proofs.Ytdonmboidpppmaa
open Go.RowKit Go.Sort Ieee
set_option linter.unusedSimpArgs false
set_option linter.unusedVariables false

theorem two_madeT (w : World) (s t : TypeId) (A B : Array Value) : ∃ W0, W0 = (w.alloc (.cells A s)).alloc (.cells B t) ∧ Has W0 w.heap.size s A ∧ Has W0 (w.heap.size + 1) t B ∧ Below w.heap.size w W0 := by
  refine ⟨_, rfl, ?_, ?_, ?_⟩
  · exact (Has.made w s A).beside (.cells B t)
  · have h := Has.made (w.alloc (.cells A s)) t B
    rwa [World.size_alloc] at h
  · exact ((Below.refl w.heap.size w).alloc (Nat.le_refl _) _).alloc (by rw [World.size_alloc]; omega) _
/-- What the closures have captured: the grid, the fields, the magnet, the tick. -/
structure Cap (w : World) (b0 b1 b2 b3 b4 W H g1 q1 g2 q2 mag tick : Nat) : Prop where
  h0 : Has w b0 25 #[.int .i64 W, .int .i64 H]
  h1 : Has w b1 29 #[.slice (some ⟨g1, 0, none⟩) (W * H) q1]
  h2 : Has w b2 29 #[.slice (some ⟨g2, 0, none⟩) (W * H) q2]
  h3 : Has w b3 32 #[.float .f32 mag]
  h4 : Has w b4 32 #[.float .f32 tick]
theorem Cap.after {w w' : World} {b0 b1 b2 b3 b4 W H g1 q1 g2 q2 mag tick : Nat} (h : Cap w b0 b1 b2 b3 b4 W H g1 q1 g2 q2 mag tick) (hb : Below w.heap.size w w') : Cap w' b0 b1 b2 b3 b4 W H g1 q1 g2 q2 mag tick :=
  ⟨h.h0.after hb, h.h1.after hb, h.h2.after hb, h.h3.after hb, h.h4.after hb⟩
theorem five_made (w : World) (t0 t1 t2 t3 t4 : TypeId) (A0 A1 A2 A3 A4 : Array Value) : ∃ W0, W0 = ((((w.alloc (.cells A0 t0)).alloc (.cells A1 t1)).alloc (.cells A2 t2)).alloc (.cells A3 t3)).alloc (.cells A4 t4) ∧ Has W0 w.heap.size t0 A0 ∧ Has W0 (w.heap.size + 1) t1 A1 ∧ Has W0 (w.heap.size + 1 + 1) t2 A2 ∧ Has W0 (w.heap.size + 1 + 1 + 1) t3 A3 ∧ Has W0 (w.heap.size + 1 + 1 + 1 + 1) t4 A4 ∧ Below w.heap.size w W0 := by
  refine ⟨_, rfl, ?_, ?_, ?_, ?_, ?_, ?_⟩
  · exact ((((Has.made w t0 A0).beside (.cells A1 t1)).beside (.cells A2 t2)).beside (.cells A3 t3)).beside (.cells A4 t4)
  · have h := Has.made (w.alloc (.cells A0 t0)) t1 A1
    rw [World.size_alloc] at h
    exact ((h.beside (.cells A2 t2)).beside (.cells A3 t3)).beside (.cells A4 t4)
  · have h := Has.made ((w.alloc (.cells A0 t0)).alloc (.cells A1 t1)) t2 A2
    rw [World.size_alloc, World.size_alloc] at h
    exact (h.beside (.cells A3 t3)).beside (.cells A4 t4)
  · have h := Has.made (((w.alloc (.cells A0 t0)).alloc (.cells A1 t1)).alloc (.cells A2 t2)) t3 A3
    rw [World.size_alloc, World.size_alloc, World.size_alloc] at h
    exact h.beside (.cells A4 t4)
  · have h := Has.made ((((w.alloc (.cells A0 t0)).alloc (.cells A1 t1)).alloc (.cells A2 t2)).alloc (.cells A3 t3)) t4 A4
    rw [World.size_alloc, World.size_alloc, World.size_alloc, World.size_alloc] at h
    exact h
  · exact (((((Below.refl w.heap.size w).alloc (Nat.le_refl _) _).alloc (by rw [World.size_alloc]; omega) _).alloc (by rw [World.size_alloc, World.size_alloc]; omega) _).alloc (by rw [World.size_alloc, World.size_alloc, World.size_alloc]; omega) _).alloc (by rw [World.size_alloc, World.size_alloc, World.size_alloc, World.size_alloc]; omega) _

/-- Lists of particles that leap, one by one. -/
def LeapL (W H : Nat) (F1 F2 : List Nat) (mag tick : Nat) (ps qs : List PD) : Prop := qs.length = ps.length ∧ ∀ (i : Nat) (h : i < ps.length) (h' : i < qs.length), LeapW W H F1 F2 mag tick ps[i] qs[i]
def BackL (W H : Nat) (F1 F2 : List Nat) (mag tick : Nat) (ps qs : List PD) : Prop := qs.length = ps.length ∧ ∀ (i : Nat) (h : i < ps.length) (h' : i < qs.length), BackW W H F1 F2 mag tick ps[i] qs[i]
theorem PW.pnm {p : PD} {B : Rat} (h : PW p B) : PNm p.a p.b p.c p.d p.q p.m := ⟨by have := h.m0; grind, h.na, h.nb, h.nc, h.nd, h.nq, h.nm⟩
theorem PW.ok {p : PD} {B : Rat} (h : PW p B) : p.ok = true := bvalid h.na h.nb h.nc h.nd h.nq h.nm h.pnm.p
def AllW (B : Rat) (ps : List PD) : Prop := ∀ p ∈ ps, PW p B
theorem AllW.ok {B : Rat} {ps : List PD} (h : AllW B ps) : ps.all PD.ok = true := List.all_eq_true.2 fun p hp => (h p hp).ok

set_option maxHeartbeats 4000000 in
set_option maxRecDepth 20000 in
theorem bLeapC {W H : Nat} {F1 F2 : List Nat} {mag tick : Nat} {p p' : PD} (hS : Sides W H) (nmag : Nm single mag) (nt : Nm single tick) (hV : PNm p.a p.b p.c p.d p.q p.m) (hL : LeapW W H F1 F2 mag tick p p') (g1 g2 q1 q2 : Nat) (hl1 : F1.length = W * H) (hl2 : F2.length = W * H) (b0 b1 b2 b3 b4 : Nat) (w : World) (K : Cap w b0 b1 b2 b3 b4 W H g1 q1 g2 q2 mag tick) (hh1 : FldW w g1 F1) (hh2 : FldW w g2 F2) :
    Calls Try.prog 52 #[.agg #[.complex .f32 p.a p.b, .complex .f32 p.c p.d, .float .f32 p.q, .float .f32 p.m], .pointer (some ⟨b0, 0, none⟩), .pointer (some ⟨b1, 0, none⟩), .pointer (some ⟨b2, 0, none⟩), .pointer (some ⟨b3, 0, none⟩), .pointer (some ⟨b4, 0, none⟩)] w fun e w' => e = .returned (.tuple #[.agg #[.complex .f32 p'.a p'.b, .complex .f32 p'.c p'.d, .float .f32 p'.q, .float .f32 p'.m], .bool true]) ∧ Below w.heap.size w w' := by
  have LO := keep (fun w h1 h2 => bLeapOnce hS nmag nt hV hL g1 g2 q1 q2 hl1 hl2 w h1 h2)
  obtain ⟨x, y, u, v, q, m⟩ := p
  obtain ⟨x', y', u', v', q', m'⟩ := p'
  dsimp only at *
  obtain ⟨W0, eW, HA, HZ, BW⟩ := two_madeT w 41 41 (pC x y u v q m) (pC 0 0 0 0 0 0)
  have HZ0 := keep HZ
  have B0 := keep BW
  have X0 := keep (hh1.after BW)
  have Y0 := keep (hh2.after BW)
  have EW := keep eW
  have K0 := K.after BW
  have kA := HA.cells
  have k0 := K0.h0.cells
  have k1 := K0.h1.cells
  have k2 := K0.h2.cells
  have k3 := K0.h3.cells
  have k4 := K0.h4.cells
  clear eW HA HZ BW hh1 hh2 hS nmag nt hV hL K K0 hl1 hl2
  unfold PD.agg gridV at LO
  unfold pC at *
  generalize hn : W * H = n at *
  clear hn
  go_enter Try.func52, Try.ntmps52
  go_upto_region 1 with fail
  rw [← EW.out]
  clear EW
  go_wp2_with fail
  refine (LO.out _ X0.out Y0.out).mono ?_
  rintro e w1 ⟨rfl, hb⟩
  have HZ1 := keep (HZ0.out.after hb)
  have B1 := keep (B0.out.trans (hb.mono B0.out.size))
  clear hb HZ0 B0 X0 Y0 kA k0 k1 k2 k3 k4 LO
  have kZ := HZ1.out.cells
  have uZ := HZ1.out.free
  have lZ := HZ1.out.in_heap
  have E1 := keep (set4_has HZ1.out (.complex .f32 x' y') (.complex .f32 u' v') (.float .f32 q') (.float .f32 m'))
  have E2 := keep (set4_below B1.out (g := w.heap.size + 1) (by omega) (.complex .f32 x' y') (.complex .f32 u' v') (.float .f32 q') (.float .f32 m'))
  obtain ⟨X, hX⟩ : ∃ X, X = set4 w1 (w.heap.size + 1) (.complex .f32 x' y') (.complex .f32 u' v') (.float .f32 q') (.float .f32 m') := ⟨_, rfl⟩
  rw [← hX] at E1 E2
  unfold set4 at hX
  go_wp2_with fail
  rw [← hX]
  clear hX kZ uZ lZ HZ1 B1
  have c1 := E1.out.cells
  exact bodyPost_ret (v := .tuple #[.agg #[.complex .f32 x' y', .complex .f32 u' v', .float .f32 q', .float .f32 m'], .bool true]) (by simp [results, Try.results52, go_sem, c1]; try rfl) rfl ⟨rfl, E2.out⟩

set_option maxHeartbeats 4000000 in
set_option maxRecDepth 20000 in
theorem bBackC {W H : Nat} {F1 F2 : List Nat} {mag tick : Nat} {p p' : PD} (hS : Sides W H) (nmag : Nm single mag) (nt : Nm single tick) (hV : PNm p.a p.b p.c p.d p.q p.m) (hL : BackW W H F1 F2 mag tick p p') (n5 : Nm single p'.a) (n6 : Nm single p'.b) (g1 g2 q1 q2 : Nat) (hl1 : F1.length = W * H) (hl2 : F2.length = W * H) (b0 b1 b2 b3 b4 : Nat) (w : World) (K : Cap w b0 b1 b2 b3 b4 W H g1 q1 g2 q2 mag tick) (hh1 : FldW w g1 F1) (hh2 : FldW w g2 F2) :
    Calls Try.prog 53 #[.agg #[.complex .f32 p.a p.b, .complex .f32 p.c p.d, .float .f32 p.q, .float .f32 p.m], .pointer (some ⟨b0, 0, none⟩), .pointer (some ⟨b1, 0, none⟩), .pointer (some ⟨b2, 0, none⟩), .pointer (some ⟨b3, 0, none⟩), .pointer (some ⟨b4, 0, none⟩)] w fun e w' => e = .returned (.tuple #[.agg #[.complex .f32 p'.a p'.b, .complex .f32 p'.c p'.d, .float .f32 p'.q, .float .f32 p'.m], .bool true]) ∧ Below w.heap.size w w' := by
  have LO := keep (fun w h1 h2 => bBackOnce hS nmag nt hV hL n5 n6 g1 g2 q1 q2 hl1 hl2 w h1 h2)
  obtain ⟨x, y, u, v, q, m⟩ := p
  obtain ⟨x', y', u', v', q', m'⟩ := p'
  dsimp only at *
  obtain ⟨W0, eW, HA, HZ, BW⟩ := two_madeT w 41 41 (pC x y u v q m) (pC 0 0 0 0 0 0)
  have HZ0 := keep HZ
  have B0 := keep BW
  have X0 := keep (hh1.after BW)
  have Y0 := keep (hh2.after BW)
  have EW := keep eW
  have K0 := K.after BW
  have kA := HA.cells
  have k0 := K0.h0.cells
  have k1 := K0.h1.cells
  have k2 := K0.h2.cells
  have k3 := K0.h3.cells
  have k4 := K0.h4.cells
  clear eW HA HZ BW hh1 hh2 hS nmag nt hV hL K K0 hl1 hl2 n5 n6
  unfold PD.agg gridV at LO
  unfold pC at *
  generalize hn : W * H = n at *
  clear hn
  go_enter Try.func53, Try.ntmps53
  go_upto_region 1 with fail
  rw [← EW.out]
  clear EW
  go_wp2_with fail
  refine (LO.out _ X0.out Y0.out).mono ?_
  rintro e w1 ⟨rfl, hb⟩
  have HZ1 := keep (HZ0.out.after hb)
  have B1 := keep (B0.out.trans (hb.mono B0.out.size))
  clear hb HZ0 B0 X0 Y0 kA k0 k1 k2 k3 k4 LO
  have kZ := HZ1.out.cells
  have uZ := HZ1.out.free
  have lZ := HZ1.out.in_heap
  have E1 := keep (set4_has HZ1.out (.complex .f32 x' y') (.complex .f32 u' v') (.float .f32 q') (.float .f32 m'))
  have E2 := keep (set4_below B1.out (g := w.heap.size + 1) (by omega) (.complex .f32 x' y') (.complex .f32 u' v') (.float .f32 q') (.float .f32 m'))
  obtain ⟨X, hX⟩ : ∃ X, X = set4 w1 (w.heap.size + 1) (.complex .f32 x' y') (.complex .f32 u' v') (.float .f32 q') (.float .f32 m') := ⟨_, rfl⟩
  rw [← hX] at E1 E2
  unfold set4 at hX
  go_wp2_with fail
  rw [← hX]
  clear hX kZ uZ lZ HZ1 B1
  have c1 := E1.out.cells
  exact bodyPost_ret (v := .tuple #[.agg #[.complex .f32 x' y', .complex .f32 u' v', .float .f32 q', .float .f32 m'], .bool true]) (by simp [results, Try.results53, go_sem, c1]; try rfl) rfl ⟨rfl, E2.out⟩

set_option maxHeartbeats 4000000 in
set_option maxRecDepth 20000 in
theorem bLeapAll {W H : Nat} {F1 F2 : List Nat} {mag tick : Nat} {ps qs : List PD} {Bd : Rat} (hS : Sides W H) (nmag : Nm single mag) (nt : Nm single tick) (hV : AllW Bd ps) (hL : LeapL W H F1 F2 mag tick ps qs) (g1 g2 q1 q2 : Nat) (hl1 : F1.length = W * H) (hl2 : F2.length = W * H) (hN : ps.length ≤ 64) (B : Nat) (v : Value) (w : World) (hown : w.ownsRow B 41 4 v ps.length (psCells ps)) (hh1 : FldW w g1 F1) (hh2 : FldW w g2 F2) :
    Calls Try.prog 22 #[gridV W H, v, .slice (some ⟨g1, 0, none⟩) (W * H) q1, .slice (some ⟨g2, 0, none⟩) (W * H) q2, .float .f32 mag, .float .f32 tick] w fun e w' => ∃ (A : Option Addr) (c : Nat), e = .returned (.tuple #[.slice A ps.length c, .bool true]) ∧ w'.ownsRow w.heap.size 41 4 (.slice A ps.length c) ps.length (psCells qs) ∧ Below w.heap.size w w' := by
  obtain ⟨W0, eW, H0, H1, H2, H3, H4, BW⟩ := five_made w 25 29 29 32 32 #[.int .i64 W, .int .i64 H] #[.slice (some ⟨g1, 0, none⟩) (W * H) q1] #[.slice (some ⟨g2, 0, none⟩) (W * H) q2] #[.float .f32 mag] #[.float .f32 tick]
  have K0 : Cap W0 w.heap.size (w.heap.size + 1) (w.heap.size + 1 + 1) (w.heap.size + 1 + 1 + 1) (w.heap.size + 1 + 1 + 1 + 1) W H g1 q1 g2 q2 mag tick := ⟨H0, H1, H2, H3, H4⟩
  have MA := keep (fun w => bisMagnet W H hS (some ⟨g1, 0, none⟩) (some ⟨g2, 0, none⟩) q1 q2 mag tick nmag nt w)
  have AP := keep (fun w h => AreParticles_ok B v ps w h hV.ok hN)
  have AL := keep (fun (b0 b1 b2 b3 b4 : Nat) (w : World) (K : Cap w b0 b1 b2 b3 b4 W H g1 q1 g2 q2 mag tick) (x : FldW w g1 F1) (y : FldW w g2 F2) h => ball_LeapAll B v ps qs hL.1 b0 b1 b2 b3 b4 w h hN (fun i hi hq w' hb => bLeapC hS nmag nt (hV _ (List.getElem_mem hi)).pnm (hL.2 i hi hq) g1 g2 q1 q2 hl1 hl2 b0 b1 b2 b3 b4 w' (K.after hb) (x.after hb) (y.after hb)))
  have X0 := keep (hh1.after BW)
  have Y0 := keep (hh2.after BW)
  have O0 := keep (owns_below hown BW)
  have B0 := keep BW
  have EW := keep eW
  have KK := keep K0
  have hmf : ∀ (fn : Fn) (first cap : Array Value) (w : World), (Instr.makeFunc fn first cap).run Try.prog w = .ok (.func fn first cap) w := fun _ _ _ _ => rfl
  obtain ⟨A, c, rfl⟩ := own_slice hown
  have k0 := K0.h0.cells
  have k1 := K0.h1.cells
  have k2 := K0.h2.cells
  have k3 := K0.h3.cells
  have k4 := K0.h4.cells
  clear eW H0 H1 H2 H3 H4 BW K0 hown hh1 hh2 hS nmag nt hV hL hl1 hl2 hN
  unfold gridV at *
  generalize hn : W * H = n at *
  go_enter Try.func22, Try.ntmps22
  go_wp2_with fail
  rw [← EW.out]
  clear EW
  refine (MA.out _).mono ?_
  rintro e w1 ⟨rfl, hb⟩
  have K1 := keep (KK.out.after hb)
  have X1 := keep (X0.out.after hb)
  have Y1 := keep (Y0.out.after hb)
  have O1 := keep (owns_below O0.out hb)
  have B1 := keep (B0.out.trans (hb.mono B0.out.size))
  clear hb KK X0 Y0 O0 B0 k0 k1 k2 k3 k4 MA
  go_wp2_with fail
  refine (AP.out _ O1.out).mono ?_
  rintro e w2 ⟨rfl, hb⟩
  have K2 := keep (K1.out.after hb)
  have X2 := keep (X1.out.after hb)
  have Y2 := keep (Y1.out.after hb)
  have O2 := keep (owns_below O1.out hb)
  have B2 := keep (B1.out.trans (hb.mono B1.out.size))
  clear hb K1 X1 Y1 O1 B1 AP
  go_wp2_with fail
  refine (AL.out _ _ _ _ _ _ K2.out X2.out Y2.out O2.out).mono ?_
  rintro e w3 ⟨D, d, rfl, ho, hb⟩
  have O3 := keep (own_base ho B2.out.size)
  have B3 := keep (B2.out.trans (hb.mono B2.out.size))
  clear hb ho K2 X2 Y2 O2 B2 AL hmf
  go_wp2_with fail
  go_ret2
  exact ⟨D, d, rfl, O3.out, B3.out⟩

set_option maxHeartbeats 4000000 in
set_option maxRecDepth 20000 in
theorem bBackAll {W H : Nat} {F1 F2 : List Nat} {mag tick : Nat} {ps qs : List PD} {Bd : Rat} (hS : Sides W H) (nmag : Nm single mag) (nt : Nm single tick) (hV : AllW Bd ps) (hL : BackL W H F1 F2 mag tick ps qs) {Bq : Rat} (hQ : AllW Bq qs) (g1 g2 q1 q2 : Nat) (hl1 : F1.length = W * H) (hl2 : F2.length = W * H) (hN : ps.length ≤ 64) (B : Nat) (v : Value) (w : World) (hown : w.ownsRow B 41 4 v ps.length (psCells ps)) (hh1 : FldW w g1 F1) (hh2 : FldW w g2 F2) :
    Calls Try.prog 23 #[gridV W H, v, .slice (some ⟨g1, 0, none⟩) (W * H) q1, .slice (some ⟨g2, 0, none⟩) (W * H) q2, .float .f32 mag, .float .f32 tick] w fun e w' => ∃ (A : Option Addr) (c : Nat), e = .returned (.tuple #[.slice A ps.length c, .bool true]) ∧ w'.ownsRow w.heap.size 41 4 (.slice A ps.length c) ps.length (psCells qs) ∧ Below w.heap.size w w' := by
  obtain ⟨W0, eW, H0, H1, H2, H3, H4, BW⟩ := five_made w 25 29 29 32 32 #[.int .i64 W, .int .i64 H] #[.slice (some ⟨g1, 0, none⟩) (W * H) q1] #[.slice (some ⟨g2, 0, none⟩) (W * H) q2] #[.float .f32 mag] #[.float .f32 tick]
  have K0 : Cap W0 w.heap.size (w.heap.size + 1) (w.heap.size + 1 + 1) (w.heap.size + 1 + 1 + 1) (w.heap.size + 1 + 1 + 1 + 1) W H g1 q1 g2 q2 mag tick := ⟨H0, H1, H2, H3, H4⟩
  have MA := keep (fun w => bisMagnet W H hS (some ⟨g1, 0, none⟩) (some ⟨g2, 0, none⟩) q1 q2 mag tick nmag nt w)
  have AP := keep (fun w h => AreParticles_ok B v ps w h hV.ok hN)
  have AL := keep (fun (b0 b1 b2 b3 b4 : Nat) (w : World) (K : Cap w b0 b1 b2 b3 b4 W H g1 q1 g2 q2 mag tick) (x : FldW w g1 F1) (y : FldW w g2 F2) h => ball_BackAll B v ps qs hL.1 b0 b1 b2 b3 b4 w h hN (fun i hi hq w' hb => bBackC hS nmag nt (hV _ (List.getElem_mem hi)).pnm (hL.2 i hi hq) (hQ _ (List.getElem_mem hq)).na (hQ _ (List.getElem_mem hq)).nb g1 g2 q1 q2 hl1 hl2 b0 b1 b2 b3 b4 w' (K.after hb) (x.after hb) (y.after hb)))
  have X0 := keep (hh1.after BW)
  have Y0 := keep (hh2.after BW)
  have O0 := keep (owns_below hown BW)
  have B0 := keep BW
  have EW := keep eW
  have KK := keep K0
  have hmf : ∀ (fn : Fn) (first cap : Array Value) (w : World), (Instr.makeFunc fn first cap).run Try.prog w = .ok (.func fn first cap) w := fun _ _ _ _ => rfl
  obtain ⟨A, c, rfl⟩ := own_slice hown
  have k0 := K0.h0.cells
  have k1 := K0.h1.cells
  have k2 := K0.h2.cells
  have k3 := K0.h3.cells
  have k4 := K0.h4.cells
  clear eW H0 H1 H2 H3 H4 BW K0 hown hh1 hh2 hS nmag nt hV hL hl1 hl2 hN hQ
  unfold gridV at *
  generalize hn : W * H = n at *
  go_enter Try.func23, Try.ntmps23
  go_wp2_with fail
  rw [← EW.out]
  clear EW
  refine (MA.out _).mono ?_
  rintro e w1 ⟨rfl, hb⟩
  have K1 := keep (KK.out.after hb)
  have X1 := keep (X0.out.after hb)
  have Y1 := keep (Y0.out.after hb)
  have O1 := keep (owns_below O0.out hb)
  have B1 := keep (B0.out.trans (hb.mono B0.out.size))
  clear hb KK X0 Y0 O0 B0 k0 k1 k2 k3 k4 MA
  go_wp2_with fail
  refine (AP.out _ O1.out).mono ?_
  rintro e w2 ⟨rfl, hb⟩
  have K2 := keep (K1.out.after hb)
  have X2 := keep (X1.out.after hb)
  have Y2 := keep (Y1.out.after hb)
  have O2 := keep (owns_below O1.out hb)
  have B2 := keep (B1.out.trans (hb.mono B1.out.size))
  clear hb K1 X1 Y1 O1 B1 AP
  go_wp2_with fail
  refine (AL.out _ _ _ _ _ _ K2.out X2.out Y2.out O2.out).mono ?_
  rintro e w3 ⟨D, d, rfl, ho, hb⟩
  have O3 := keep (own_base ho B2.out.size)
  have B3 := keep (B2.out.trans (hb.mono B2.out.size))
  clear hb ho K2 X2 Y2 O2 B2 AL hmf
  go_wp2_with fail
  go_ret2
  exact ⟨D, d, rfl, O3.out, B3.out⟩

set_option maxHeartbeats 2000000 in
theorem isSteps_ok (n : Int) (h0 : 0 ≤ n) (h1 : n ≤ 64) (w : World) : Calls Try.prog 54 #[.int .i64 n] w fun e w' => e = .returned (.bool true) ∧ w' = w := by
  have WI := keep (fun w => within_any n 0 64 w)
  have hd : (decide ((0 : Int) ≤ n) && decide (n ≤ 64)) = true := by simp; omega
  rw [hd] at WI
  clear hd
  go_enter Try.func54, Try.ntmps54
  go_wp2_with fail
  refine (WI.out _).mono ?_
  rintro e w' ⟨rfl, rfl⟩
  go_wp2_with fail
  go_ret
  exact ⟨rfl, rfl⟩

set_option maxHeartbeats 4000000 in
set_option maxRecDepth 20000 in
/-- Runs of leaps along a chain of lists: from the list a to the list a + s. -/
theorem bRunLeaps {W H : Nat} {F1 F2 : List Nat} {mag tick : Nat} (L : Nat → List PD) (Bd : Nat → Rat) (hS : Sides W H) (nmag : Nm single mag) (nt : Nm single tick) (M : Nat) (hV : ∀ k, k ≤ M → AllW (Bd k) (L k)) (hL : ∀ k, k < M → LeapL W H F1 F2 mag tick (L k) (L (k + 1))) (N : Nat) (hn : ∀ k, k ≤ M → (L k).length = N) (g1 g2 q1 q2 : Nat) (hl1 : F1.length = W * H) (hl2 : F2.length = W * H) (hN : N ≤ 64) (a s : Nat) (hs : a + s ≤ M) (hM : s ≤ 64) (B : Nat) (v : Value) (w : World) (hown : w.ownsRow B 41 4 v N (psCells (L a))) (hh1 : FldW w g1 F1) (hh2 : FldW w g2 F2) :
    Calls Try.prog 25 #[gridV W H, v, .slice (some ⟨g1, 0, none⟩) (W * H) q1, .slice (some ⟨g2, 0, none⟩) (W * H) q2, .float .f32 mag, .float .f32 tick, .int .i64 s] w fun e w' => ∃ (A : Option Addr) (c : Nat), e = .returned (.tuple #[.slice A N c, .bool true]) ∧ w'.ownsRow w.heap.size 41 4 (.slice A N c) N (psCells (L (a + s))) ∧ Below w.heap.size w w' := by
  have MA := keep (fun w => bisMagnet W H hS (some ⟨g1, 0, none⟩) (some ⟨g2, 0, none⟩) q1 q2 mag tick nmag nt w)
  have hna : (L a).length = N := hn a (by omega)
  have AP := keep (fun w (h : World.ownsRow w B 41 4 v N (psCells (L a))) => AreParticles_ok B v (L a) w (by rw [hna]; exact h) (hV a (by omega)).ok (by rw [hna]; exact hN))
  have IS := keep (fun w => isSteps_ok (s : Int) (by omega) (by omega) w)
  have CL := keep (fun w (h : World.ownsRow w B 41 4 v N (psCells (L a))) => Clone_ok B v (L a) w (by rw [hna]; exact h) (by rw [hna]; omega))
  rw [hna] at CL
  have LA := keep (fun k (hk : a + k < M) B v w (h : World.ownsRow w B 41 4 v N (psCells (L (a + k)))) x y => bLeapAll hS nmag nt (hV (a + k) (by omega)) (hL (a + k) hk) g1 g2 q1 q2 hl1 hl2 (by rw [hn (a + k) (by omega)]; exact hN) B v w (by rw [hn (a + k) (by omega)]; exact h) x y)
  have LN := keep (fun k (hk : a + k < M) => hn (a + k) (by omega))
  have G0 := keep (Has.made w 25 #[.int .i64 W, .int .i64 H])
  have B0 := keep ((Below.refl w.heap.size w).alloc (Nat.le_refl _) (.cells #[.int .i64 W, .int .i64 H] 25))
  have X0 := keep (hh1.after B0.out)
  have Y0 := keep (hh2.after B0.out)
  have O0 := keep (owns_below hown B0.out)
  obtain ⟨A, c, rfl⟩ := own_slice hown
  have k0 := G0.out.cells
  clear hown hh1 hh2 hS nmag nt hV hL hl1 hl2 hn hna
  unfold gridV at *
  generalize hn : W * H = n at *
  go_enter Try.func25, Try.ntmps25
  go_wp2_with fail
  refine (MA.out _).mono ?_
  rintro e w1 ⟨rfl, hb⟩
  have G1 := keep (G0.out.after hb)
  have X1 := keep (X0.out.after hb)
  have Y1 := keep (Y0.out.after hb)
  have O1 := keep (owns_below O0.out hb)
  have B1 := keep (B0.out.trans (hb.mono B0.out.size))
  clear hb G0 X0 Y0 O0 B0 k0 MA
  go_wp2_with fail
  refine (AP.out _ O1.out).mono ?_
  rintro e w2 ⟨rfl, hb⟩
  have G2 := keep (G1.out.after hb)
  have X2 := keep (X1.out.after hb)
  have Y2 := keep (Y1.out.after hb)
  have O2 := keep (owns_below O1.out hb)
  have B2 := keep (B1.out.trans (hb.mono B1.out.size))
  clear hb G1 X1 Y1 O1 B1 AP
  go_wp2_with fail
  refine (IS.out _).mono ?_
  rintro e w' ⟨rfl, hw⟩
  have hw := hw.symm
  subst hw
  go_wp2_with fail
  refine (CL.out _ O2.out).mono ?_
  rintro e w3 ⟨D, d, rfl, ho, hb⟩
  have G3 := keep (G2.out.after hb)
  have X3 := keep (X2.out.after hb)
  have Y3 := keep (Y2.out.after hb)
  have O3 := keep (own_base ho B2.out.size)
  have B3 := keep (B2.out.trans (hb.mono B2.out.size))
  clear hb ho G2 X2 Y2 O2 B2 CL IS
  go_wp2_with fail
  go_loopw [16, 17, 38] (fun t k r wr => ∃ (i : Nat) (A : Option Addr) (c : Nat), i ≤ s ∧ r = .int .i64 i ∧ t = .slice A N c ∧ k = .bool true ∧ Kept (wr.ownsRow w.heap.size 41 4 (.slice A N c) N (psCells (L (a + i)))) ∧ Kept (Has wr w.heap.size 25 #[.int .i64 W, .int .i64 H]) ∧ Kept (FldW wr g1 F1) ∧ Kept (FldW wr g2 F2) ∧ Kept (Below w.heap.size w wr)) (fun _ _ r _ => s - (intOf r).toNat)
  case atStart => exact ⟨0, D, d, Nat.zero_le _, rfl, rfl, rfl, O3, G3, X3, Y3, B3⟩
  case round =>
    clear G3 X3 Y3 O3 B3
    obtain ⟨i, A2, c2, hi, rfl, rfl, rfl, hO, hG, hX, hY, hB⟩ := hrel
    by_cases hlt : i < s
    · have kg := hG.out.cells
      have LAi := keep (LA.out i (by omega) _ _ _ hO.out hX.out hY.out)
      have hni := LN.out i (by omega)
      rw [hni] at LAi
      clear hni
      go_wp2_with fail
      refine LAi.out.mono ?_
      rintro e w5 ⟨D5, d5, rfl, ho, hb⟩
      have O5 := keep (own_base ho hB.out.size)
      have G5 := keep (hG.out.after hb)
      have X5 := keep (hX.out.after hb)
      have Y5 := keep (hY.out.after hb)
      have B5 := keep (hB.out.trans (hb.mono hB.out.size))
      clear hb ho hO hG hX hY hB kg LAi
      go_wp2_with fail
      go_roundw
      case rel => exact ⟨i + 1, D5, d5, by omega, by go_num, rfl, rfl, O5, G5, X5, Y5, B5⟩
      case measure => simp [intOf]; omega
    · obtain rfl : i = s := by omega
      go_wp2_with fail
      go_ret2
      exact ⟨A2, c2, rfl, hO.out, hB.out⟩
end Go.Proofs.Ytdonmboidpppmaa
