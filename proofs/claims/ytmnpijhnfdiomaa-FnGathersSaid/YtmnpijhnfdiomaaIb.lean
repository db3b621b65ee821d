/- Contract: a list with the opposite speeds. -/
import Derived.Test.YtmnpijhnfdiomaaIa
namespace Go.Proofs.Ytmnpijhnfdiomaa
open Go.RowKit Go.Sort Ieee
set_option linter.unusedSimpArgs false

theorem psCells_ext (l : List Value) (qs : List PD) (hl : l.length = qs.length * 4) (h : ∀ k (hk : k < qs.length) j, j < 4 → l[k * 4 + j]? = qs[k].cells[j]?) : l = psCells qs := by
  apply List.ext_getElem?
  intro n
  by_cases hn : n < qs.length * 4
  · have e : n = n / 4 * 4 + n % 4 := by omega
    have hk : n / 4 < qs.length := by omega
    rw [e, h _ hk _ (by omega), psCells_at qs _ hk _ (by omega)]
  · rw [List.getElem?_eq_none (by omega), List.getElem?_eq_none (by rw [psCells_length]; omega)]

/-- Of the first i particles one cell is changed. -/
def Mixed (f : PD → PD) (ps : List PD) (i : Nat) (cur : Array Value) : Prop := ∀ k (hk : k < ps.length) j, j < 4 → cur[k * 4 + j]? = (if k < i then f ps[k] else ps[k]).cells[j]?

theorem Mixed.start {f : PD → PD} {ps : List PD} {cur : Array Value} (h : cur.toList.take (ps.length * 4) = psCells ps) : Mixed f ps 0 cur := by
  intro k hk j hj
  rw [if_neg (by omega), ← psCells_at ps k hk j hj, ← h, List.getElem?_take_of_lt (by omega), Array.getElem?_toList]
theorem Mixed.step {f : PD → PD} {ps : List PD} {i : Nat} {cur : Array Value} (h : Mixed f ps i cur) (hi : i < ps.length) (c : Nat) (V : Value) (hc : c < 4) (hs : i * 4 + c < cur.size) (h1 : (f ps[i]).cells[c]? = some V) (h2 : ∀ j, j < 4 → j ≠ c → (f ps[i]).cells[j]? = ps[i].cells[j]?) : Mixed f ps (i + 1) (cur.setIfInBounds (i * 4 + c) V) := by
  intro k hk j hj
  by_cases hki : k = i
  · subst hki
    rw [if_pos (by omega)]
    by_cases hjc : j = c
    · subst hjc
      rw [Array.getElem?_setIfInBounds_self_of_lt hs, h1]
    · rw [Array.getElem?_setIfInBounds_ne (by omega), h2 j hj hjc, h k hk j hj, if_neg (by omega)]
  · rw [Array.getElem?_setIfInBounds_ne (by omega), h k hk j hj]
    by_cases hlt : k < i
    · rw [if_pos hlt, if_pos (by omega)]
    · rw [if_neg hlt, if_neg (by omega)]
theorem Mixed.done {f : PD → PD} {ps : List PD} {cur : Array Value} (h : Mixed f ps ps.length cur) (hs : ps.length * 4 ≤ cur.size) : cur.toList.take (ps.length * 4) = psCells (ps.map f) := by
  refine psCells_ext _ _ ?_ fun k hk j hj => ?_
  · rw [List.length_take, List.length_map]
    have : cur.toList.length = cur.size := rfl
    omega
  · rw [List.length_map] at hk
    rw [List.getElem?_take_of_lt (by omega), Array.getElem?_toList, h k hk j hj, if_pos hk, List.getElem_map]

set_option maxHeartbeats 4000000 in
set_option maxRecDepth 20000 in
theorem TurnSpeeds_ok (B : Nat) (v : Value) (ps : List PD) (w : World) (h : w.ownsRow B 50 4 v ps.length (psCells ps)) (hok : ps.all PD.ok = true) (hN : ps.length ≤ 6) :
    Calls Try.prog 24 #[v] w fun e w' => ∃ (A : Option Addr) (c : Nat), e = .returned (.tuple #[.slice A ps.length c, .bool true]) ∧ w'.ownsRow w.heap.size 50 4 (.slice A ps.length c) ps.length (psCells (ps.map PD.turn)) ∧ Below w.heap.size w w' := by
  have AP := keep (AreParticles_ok B v ps w h hok (by omega))
  have CL := keep (fun w (h : w.ownsRow B 50 4 v ps.length (psCells ps)) => Clone_ok B v ps w h (by omega))
  have HH := keep h
  obtain ⟨A, c, rfl⟩ := own_slice h
  clear h hok
  go_enter Try.func24, Try.ntmps24
  go_wp2_with fail
  refine AP.out.mono ?_
  rintro e w1 ⟨rfl, hb⟩
  have B1 := keep hb
  have O1 := keep (owns_below HH.out hb)
  clear hb AP HH
  go_wp2_with fail
  refine (CL.out _ O1.out).mono ?_
  rintro e w4 ⟨D, d, rfl, hown, hb⟩
  have OW := keep (own_base hown B1.out.size)
  have B4 := keep (B1.out.trans (hb.mono B1.out.size))
  clear hown hb O1 B1 CL
  go_wp2_with fail
  rcases OW.out.2 with ⟨he, hn⟩ | ⟨g, cap, cur, he, hB, hg, hnc, hcm, hcs, htake⟩
  · obtain rfl : ps = [] := List.eq_nil_of_length_eq_zero hn
    injection he with he1 he2 he3
    subst he1
    subst he3
    refine wp_loop_rounds 1 ?_
    rw [rounds_succ]
    go_wp2_with fail
    go_ret2
    exact ⟨none, 0, rfl, World.ownsRow_nil _ _ _ _, B4.out⟩
  · injection he with he1 he2 he3
    subst he1
    subst he3
    go_loopw [14] (fun s wr => ∃ (i : Nat) (cur : Array Value), i ≤ ps.length ∧ s = .int .i64 i ∧ Has wr g 50 cur ∧ Kept (cur.size = d * 4) ∧ Kept (Mixed PD.turn ps i cur) ∧ Kept (Below w.heap.size w wr)) (fun s _ => ps.length - (intOf s).toNat)
    case atStart => exact ⟨0, cur, Nat.zero_le _, rfl, hg, keep hcs, keep (Mixed.start htake), B4⟩
    case round =>
      clear B4 OW hg htake hcs
      obtain ⟨i, cur2, hi, rfl, hh, hsz, hmix, hb⟩ := hrel
      by_cases hlt : i < ps.length
      · have h4 : ∀ j u, j < 4 → ps[i].cells[j]? = some u → wr.cell? ⟨g, i * 4 + j, none⟩ = some u := fun j u hj hu => by
          rw [hh.cells, hmix.out i hlt j hj, if_neg (by omega)]
          exact hu
        have c0 : wr.cell? ⟨g, i * 4, none⟩ = some (.complex .f32 ps[i].a ps[i].b) := h4 0 _ (by omega) rfl
        have c1 : wr.cell? ⟨g, i * 4 + 1, none⟩ = some (.complex .f32 ps[i].c ps[i].d) := h4 1 _ (by omega) rfl
        have c2 : wr.cell? ⟨g, i * 4 + 2, none⟩ = some (.float .f32 ps[i].q) := h4 2 _ (by omega) rfl
        have c3 : wr.cell? ⟨g, i * 4 + 3, none⟩ = some (.float .f32 ps[i].m) := h4 3 _ (by omega) rfl
        have zc : i * 4 + 1 < cur2.size := by have := hsz.out; omega
        have M2 := keep (hmix.out.step hlt 1 (.complex .f32 (Op.negFloat .f32 ps[i].c) (Op.negFloat .f32 ps[i].d)) (by omega) zc rfl (fun j hj hne => by
          have : j = 0 ∨ j = 2 ∨ j = 3 := by omega
          rcases this with rfl | rfl | rfl <;> rfl))
        have u1 := hh.free (i * 4 + 1)
        have hgr := hh.in_heap
        have hwg : w.heap.size ≤ g := hB
        have H6 := keep (fun cs => Has.beside (hh.written (i * 4 + 1) (.complex .f32 (Op.negFloat .f32 ps[i].c) (Op.negFloat .f32 ps[i].d))) (.cells cs 50))
        have B6 := keep (fun cs => (hb.out.setCell (p := ⟨g, i * 4 + 1, none⟩) hwg (.complex .f32 (Op.negFloat .f32 ps[i].c) (Op.negFloat .f32 ps[i].d))).alloc (hb.out.setCell (p := ⟨g, i * 4 + 1, none⟩) hwg (.complex .f32 (Op.negFloat .f32 ps[i].c) (Op.negFloat .f32 ps[i].d))).size (.cells cs 50))
        have S6 := keep (show (cur2.setIfInBounds (i * 4 + 1) (.complex .f32 (Op.negFloat .f32 ps[i].c) (Op.negFloat .f32 ps[i].d))).size = d * 4 from by simp [hsz.out])
        have n1 := run_negf ps[i].c
        have n2 := run_negf ps[i].d
        clear h4 hh hmix hb hsz
        generalize ps[i] = p at *
        generalize Op.negFloat .f32 p.c = nc at *
        generalize Op.negFloat .f32 p.d = nd at *
        go_wp2_with fail
        go_roundw
        case rel => exact ⟨i + 1, _, by omega, by go_num, H6.out _, S6, M2, keep (B6.out _)⟩
        case measure => simp [intOf]; omega
      · obtain rfl : i = ps.length := by omega
        have t0 := hmix.out.done (by have := hsz.out; omega)
        have ow : wr.ownsRow w.heap.size 50 4 (.slice (some ⟨g, 0, none⟩) ps.length d) ps.length (psCells (ps.map PD.turn)) := ⟨by rw [psCells_length, List.length_map], .inr ⟨g, d, cur2, rfl, hB, hh, hnc, hcm, hsz.out, t0⟩⟩
        have OW2 := keep ow
        clear ow t0 hh
        go_wp2_with fail
        go_ret2
        exact ⟨_, _, rfl, OW2.out, hb.out⟩
end Go.Proofs.Ytmnpijhnfdiomaa
