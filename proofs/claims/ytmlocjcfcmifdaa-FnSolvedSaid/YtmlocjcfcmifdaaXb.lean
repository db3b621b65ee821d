/- Contracts: rows of numbers by their words; the equations of a row, solved. No condition but that each step runs. -/
import Derived.Test.YtmlocjcfcmifdaaXa
import Derived.Test.YtmlocjcfcmifdaaZ0
import Derived.Deep.RegionHeld
import Derived.Deep.DeepCutAuto
import Derived.BigQuiet
namespace Go.Proofs.Ytmlocjcfcmifdaa
open Go.RowKit Go.Sort Ieee
set_option linter.unusedSimpArgs false
set_option linter.unusedVariables false

/-- A row of n numbers in a block, by their words. -/
def FW (w : World) (g n : Nat) (a : Nat → Nat) : Prop := g < w.heap.size ∧ ∀ i, i < n → w.cell? ⟨g, i, none⟩ = some (.float .f32 (a i))
theorem FW.later {w w' : World} {g n B : Nat} {a : Nat → Nat} (h : FW w g n a) (hb : Below B w w') (hg : g < B) : FW w' g n a :=
  ⟨Nat.lt_of_lt_of_le h.1 hb.size, fun i hi => (hb.cell (p := ⟨g, i, none⟩) hg).trans (h.2 i hi)⟩
theorem FW.after {w w' : World} {g n : Nat} {a : Nat → Nat} (h : FW w g n a) (hb : Below w.heap.size w w') : FW w' g n a := h.later hb h.1
theorem FW.beside {w : World} {g n : Nat} {a : Nat → Nat} (h : FW w g n a) (o : Obj) : FW (w.alloc o) g n a := h.after ((Below.refl w.heap.size w).alloc (Nat.le_refl _) o)
theorem FW.mono {w : World} {g n k : Nat} {a : Nat → Nat} (h : FW w g n a) (hk : k ≤ n) : FW w g k a := ⟨h.1, fun i hi => h.2 i (by omega)⟩
theorem FW.congr {w : World} {g n : Nat} {a b : Nat → Nat} (h : FW w g n a) (e : ∀ i, i < n → a i = b i) : FW w g n b := ⟨h.1, fun i hi => by rw [← e i hi]; exact h.2 i hi⟩
theorem FW.set {w : World} {g n : Nat} {a : Nat → Nat} (h : FW w g n a) {p : Addr} (hp : p.block ≠ g) (u : Value) : FW (w.setCell p u) g n a :=
  ⟨by simpa [World.setCell] using h.1, fun i hi => (World.cell?_setCell_far w p ⟨g, i, none⟩ u hp).trans (h.2 i hi)⟩

/-- The first n of some cells. -/
def CW (cur : Array Value) (n : Nat) (f : Nat → Nat) : Prop := n ≤ cur.size ∧ ∀ i, i < n → cur[i]? = some (.float .f32 (f i))
theorem CW.fw {w : World} {g n : Nat} {cur : Array Value} {f : Nat → Nat} (h : CW cur n f) (hh : Has w g 28 cur) : FW w g n f := ⟨hh.in_heap, fun i hi => (hh.cells i).trans (h.2 i hi)⟩
theorem CW.put {cur : Array Value} {n : Nat} {f g : Nat → Nat} (h : CW cur n f) (j v : Nat) (hj : j < n) (hg : ∀ i, i < n → g i = if i = j then v else f i) : CW (cur.setIfInBounds j (.float .f32 v)) n g := by
  refine ⟨by simpa using h.1, fun i hi => ?_⟩
  rw [hg i hi]
  by_cases e : i = j
  · subst e
    rw [if_pos rfl, Array.getElem?_setIfInBounds_self_of_lt (by have := h.1; omega)]
  · rw [if_neg e, Array.getElem?_setIfInBounds_ne (by omega)]
    exact h.2 i hi
theorem CW.snoc {cur : Array Value} {k : Nat} {f : Nat → Nat} (h : CW cur k f) (hk : k < cur.size) : CW (cur.setIfInBounds k (.float .f32 (f k))) (k + 1) f := by
  refine ⟨by rw [Array.size_setIfInBounds]; omega, fun i hi => ?_⟩
  by_cases e : i = k
  · subst e
    rw [Array.getElem?_setIfInBounds_self_of_lt hk]
  · rw [Array.getElem?_setIfInBounds_ne (by omega)]
    exact h.2 i (by omega)
theorem CW.congr {cur : Array Value} {n : Nat} {f g : Nat → Nat} (h : CW cur n f) (e : ∀ i, i < n → f i = g i) : CW cur n g := ⟨h.1, fun i hi => by rw [← e i hi]; exact h.2 i hi⟩

theorem xinfoF32 : (Try.prog.info? 28).map (fun i => (i.zero, i.size, i.bytes)) = some (some (.float .f32 0), 1, 4) := by kernel_rfl
theorem xmade_one (z : Value) (hz : z.cells = #[z]) (n : Nat) : madeCells z.cells (n * 1) = Array.replicate n z := by
  rw [hz, Nat.mul_one]
  apply Array.ext
  · simp [madeCells]
  · intro i h1 h2
    simp [madeCells, Nat.mod_one]
theorem run_mkW (n : Nat) (hn : n ≤ 1000) (w : World) : (Instr.makeSlice 27 (.int .i64 n) (.int .i64 n)).run Try.prog w = .ok (.slice (some ⟨w.heap.size, 0, none⟩) n n) (w.alloc (.cells (Array.replicate n (.float .f32 0)) 28)) := by
  obtain ⟨i0, hi0, hz0, hz1, hz2⟩ := info_parts xinfoF32
  have h := run_makeSlice w 27 28 i0 _ Try.underlying27 hi0 hz0 .i64 .i64 n n (by omega) (Int.le_refl _) (by rw [hz1]; omega) (by rw [hz2]; omega) (by omega)
  rw [Int.toNat_natCast, hz1, xmade_one _ rfl] at h
  exact h
theorem CW.zeros (n : Nat) : CW (Array.replicate n (.float .f32 0)) n (fun _ => 0) := ⟨by simp, fun i hi => by simp [hi]⟩

theorem nm0 : Nm single 0 ∧ V single 0 = 0 := ⟨⟨_, _, _, rfl⟩, by decide +kernel⟩
theorem ord_pos {x : Nat} (nx : Nm single x) (h : 0 < V single x) : (FloatKind.f32.format.order x 0 == some .eq) = false ∧ ¬ (FloatKind.f32.format.order x 0 = some .eq) := by
  have e := order_V nx nm0.1
  rw [nm0.2, if_neg (by grind), if_neg (by grind)] at e
  have e' : FloatKind.f32.format.order x 0 = some .gt := e
  rw [e']
  exact ⟨rfl, by intro h; cases h⟩

set_option maxHeartbeats 4000000 in
set_option maxRecDepth 20000 in
theorem SolveRow_ok (n : Nat) (hn1 : 1 ≤ n) (hn2 : n ≤ 100) {l m u r t mm s rr c d z x : Nat → Nat} (R : RowW n l m u r t mm s rr c d z x) (gl gm gu gr cl cm cu cr : Nat) (w : World) (hl : FW w gl n l) (hm : FW w gm n m) (hu : FW w gu n u) (hr : FW w gr n r) :
    Calls Try.prog 10 #[.slice (some ⟨gl, 0, none⟩) n cl, .slice (some ⟨gm, 0, none⟩) n cm, .slice (some ⟨gu, 0, none⟩) n cu, .slice (some ⟨gr, 0, none⟩) n cr] w fun e w' => ∃ (g : Nat) (cur : Array Value), e = .returned (.tuple #[.slice (some ⟨g, 0, none⟩) n n, .bool true]) ∧ w.heap.size ≤ g ∧ Has w' g 28 cur ∧ CW cur n x ∧ Below w.heap.size w w' := by
  have WI : Kept (∀ w, Calls Try.prog 43 #[.int .i64 n, .int .i64 1, .int .i64 256] w fun e w' => e = .returned (.bool true) ∧ w' = w) := keep (fun w => (within_any n 1 256 w).mono fun e w' ⟨he, hw⟩ => ⟨by rw [he]; congr 2; simp; omega, hw⟩)
  have hne : ((n : Int) != (n : Int)) = false := by simp
  have HR := keep R
  have HL := keep hl
  have HM := keep hm
  have HU := keep hu
  have HQ := keep hr
  have MK := keep (run_mkW n (by omega))
  clear R hl hm hu hr
  go_enter Try.func10, Try.ntmps10
  go_wp2_with fail
  refine (WI.out _).mono ?_
  rintro e w' ⟨rfl, hw⟩
  have hw := hw.symm
  subst hw
  have mk1 := MK.out w.drew
  have mk2 := MK.out (w.alloc (.cells (Array.replicate n (.float .f32 0)) 28)).drew
  go_wp2_with fail
  go_cut [11, 12] (fun s11 s12 wx => ∃ gc gd : Nat, s11 = .slice (some ⟨gc, 0, none⟩) n n ∧ s12 = .slice (some ⟨gd, 0, none⟩) n n ∧ gc ≠ gd ∧ w.heap.size ≤ gc ∧ w.heap.size ≤ gd ∧ Has wx gc 28 (Array.replicate n (.float .f32 0)) ∧ Has wx gd 28 (Array.replicate n (.float .f32 0)) ∧ Below w.heap.size w wx)
  case first =>
    go_region
    all_goals
      go_wp2_with fail
      go_meet
    · exact ⟨_, _, rfl, rfl, by omega, by omega, by omega, ((Has.made w _ _).beside _).draws 1, by
        have h := (Has.made (w.alloc (.cells (Array.replicate n (.float .f32 0)) 28)) 28 (Array.replicate n (.float .f32 0))).draws 1
        rw [World.size_alloc] at h
        exact h, Below.drew (((Below.refl w.heap.size w).alloc (Nat.le_refl _) _).alloc (by simp) _)⟩
    · exact ⟨_, _, rfl, rfl, by omega, by omega, by omega, by
        have h := (Has.made (w.alloc (.cells (Array.replicate n (.float .f32 0)) 28)) 28 (Array.replicate n (.float .f32 0))).draws 1
        rw [World.size_alloc] at h
        exact h, ((Has.made w _ _).beside _).draws 1, Below.drew (((Below.refl w.heap.size w).alloc (Nat.le_refl _) _).alloc (by simp) _)⟩
  case rest =>
    obtain ⟨gc, gd, rfl, rfl, hcd, hbc, hbd, hc, hd, hb⟩ := hcut
    have C1 := keep hc
    have D1 := keep hd
    have B1 := keep hb
    clear hc hd hb mk1 mk2 MK WI hne
    go_wp2_with fail
    go_loopw [45] (fun q wr => ∃ (k : Nat) (cc cd : Array Value), k ≤ n ∧ q = .int .i64 k ∧ Kept (Has wr gc 28 cc) ∧ Kept (Has wr gd 28 cd) ∧ Kept (cc.size = n) ∧ Kept (cd.size = n) ∧ Kept (CW cc k c) ∧ Kept (CW cd k d) ∧ Kept (Below w.heap.size w wr)) (fun q _ => n - (intOf q).toNat)
    case atStart => exact ⟨0, _, _, Nat.zero_le _, rfl, C1, D1, keep (by simp), keep (by simp), keep ⟨Nat.zero_le _, fun i hi => by omega⟩, keep ⟨Nat.zero_le _, fun i hi => by omega⟩, B1⟩
    case round =>
      clear C1 D1 B1
      obtain ⟨k, cc, cd, hk, rfl, hc, hd, sc, sd, wc', wd', hb⟩ := hrel
      by_cases hlt : k < n
      · have hlt' : (k : Int) < (n : Int) := by omega
        have z1 := (hb.out.cell (p := ⟨gm, k, none⟩) HM.out.1).trans (HM.out.2 k hlt)
        have z2 := (hb.out.cell (p := ⟨gr, k, none⟩) HQ.out.1).trans (HQ.out.2 k hlt)
        have z3 := (hb.out.cell (p := ⟨gu, k, none⟩) HU.out.1).trans (HU.out.2 k hlt)
        have f1 := zrun (HR.out.fc k hlt)
        have f2 := zrun (HR.out.fd k hlt)
        obtain ⟨ne1, ne2⟩ := ord_pos (HR.out.pos k hlt).1 (HR.out.pos k hlt).2
        obtain ⟨v1, c1⟩ : ∃ v, wr.cell? ⟨gc, k, none⟩ = some v := ⟨_, (hc.out.cells k).trans (Array.getElem?_eq_getElem (by rw [sc.out]; exact hlt))⟩
        have u1 := hc.out.free k
        have l1 := hc.out.in_heap
        have q2 := hd.out.elsewhere (p := ⟨gc, k, none⟩) (fun e => hcd e.symm) (.float .f32 (c k))
        obtain ⟨v2, c2⟩ : ∃ v, (wr.setCell ⟨gc, k, none⟩ (.float .f32 (c k))).cell? ⟨gd, k, none⟩ = some v := ⟨_, (q2.cells k).trans (Array.getElem?_eq_getElem (by rw [sd.out]; exact hlt))⟩
        have u2 := q2.free k
        have l2 := q2.in_heap
        have HN : Kept (∀ nq : Nat, ∃ (cc' cd' : Array Value), Kept (Has (((wr.setCell ⟨gc, k, none⟩ (.float .f32 (c k))).setCell ⟨gd, k, none⟩ (.float .f32 (d k))).drewN nq) gc 28 cc') ∧ Kept (Has (((wr.setCell ⟨gc, k, none⟩ (.float .f32 (c k))).setCell ⟨gd, k, none⟩ (.float .f32 (d k))).drewN nq) gd 28 cd') ∧ Kept (cc'.size = n) ∧ Kept (cd'.size = n) ∧ Kept (CW cc' (k + 1) c) ∧ Kept (CW cd' (k + 1) d) ∧ Kept (Below w.heap.size w (((wr.setCell ⟨gc, k, none⟩ (.float .f32 (c k))).setCell ⟨gd, k, none⟩ (.float .f32 (d k))).drewN nq))) :=
          keep (fun nq => ⟨_, _, keep (((hc.out.written k _).elsewhere hcd _).draws nq), keep ((q2.written k _).draws nq), keep (by rw [Array.size_setIfInBounds]; exact sc.out), keep (by rw [Array.size_setIfInBounds]; exact sd.out), keep (wc'.out.snoc (by rw [sc.out]; exact hlt)), keep (wd'.out.snoc (by rw [sd.out]; exact hlt)), keep (((hb.out.setCell (p := ⟨gc, k, none⟩) hbc _).setCell (p := ⟨gd, k, none⟩) hbd _).drewN_of nq)⟩)
        rcases k with _ | j
        · rw [HR.out.m0] at f1 f2 ne1 ne2
          rw [HR.out.r0] at f2
          clear hc hd sc sd wc' wd' hb q2 HR HL HM HU HQ
          go_wp2_with fail
          go_quiet (fail)
          go_wp2_with fail
          go_roundw
          case rel =>
            obtain ⟨cc', cd', h⟩ := HN.out nq
            exact ⟨1, cc', cd', hlt, rfl, h⟩
          case measure => simp [intOf]; omega
        · have z4 := (hb.out.cell (p := ⟨gl, j + 1, none⟩) HL.out.1).trans (HL.out.2 (j + 1) hlt)
          have z5 := (hc.out.cells j).trans (wc'.out.2 j (by omega))
          have z6 := (hd.out.cells j).trans (wd'.out.2 j (by omega))
          have f3 := zrun (HR.out.ft j hlt)
          have f4 := zrun (HR.out.fm j hlt)
          have f5 := zrun (HR.out.fs j hlt)
          have f6 := zrun (HR.out.fr j hlt)
          have wj : IntKind.i64.wrap (j : Int) = (j : Int) := IntWalk.i64_in _ ⟨by omega, by omega⟩
          clear hc hd sc sd wc' wd' hb q2 HR HL HM HU HQ
          go_wp2_with fail
          go_quiet (fail)
          go_wp2_with fail
          go_quiet (fail)
          go_wp2_with fail
          go_quiet (fail)
          go_wp2_with fail
          go_roundw
          case rel =>
            obtain ⟨cc', cd', h⟩ := HN.out _
            exact ⟨j + 1 + 1, cc', cd', by omega, by go_num, h⟩
          case measure => simp [intOf]; omega
      · obtain rfl : k = n := by omega
        have CC := keep wc'.out
        have B2 := keep hb.out
        have C2 := keep hc.out
        have D2 := keep hd.out
        have DX : Kept (CW cd k (fun i => if i < k - 1 then d i else x i)) := keep (wd'.out.congr (fun i hi => by
          by_cases h : i < k - 1
          · rw [if_pos h]
          · rw [if_neg h]
            obtain rfl : i = k - 1 := by omega
            exact HR.out.xe.symm))
        have wn : IntKind.i64.wrap ((k : Int) - 2) = (k : Int) - 2 := IntWalk.i64_in _ ⟨by omega, by omega⟩
        clear hc hd wc' wd' hb HL HM HU HQ
        go_wp2_with fail
        go_loopw [16] (fun q wy => ∃ (j : Nat) (cy : Array Value), j ≤ k - 1 ∧ q = .int .i64 ((j : Int) - 1) ∧ Kept (Has wy gc 28 cc) ∧ Kept (Has wy gd 28 cy) ∧ Kept (CW cy k (fun i => if i < j then d i else x i)) ∧ Kept (Below w.heap.size w wy)) (fun q _ => (intOf q + 1).toNat)
        case atStart => exact ⟨k - 1, cd, Nat.le_refl _, by congr 1; omega, C2, D2, DX, B2⟩
        case round =>
          clear C2 D2 DX B2 wn
          obtain ⟨j, cy, hj, rfl, hc, hd, hx, hb⟩ := hrel
          rcases j with _ | j
          · go_wp2_with fail
            go_ret2
            exact ⟨gd, cy, rfl, hbd, hd.out, hx.out.congr (fun i hi => by rw [if_neg (by omega)]), hb.out⟩
          · have e1 : ((j + 1 : Nat) : Int) - 1 = (j : Int) := by omega
            rw [e1]
            have y1 := (hd.out.cells j).trans (hx.out.2 j (by omega))
            dsimp only at y1
            rw [if_pos (by omega)] at y1
            have y2 := (hd.out.cells (j + 1)).trans (hx.out.2 (j + 1) (by omega))
            dsimp only at y2
            rw [if_neg (by omega)] at y2
            have y3 := (hc.out.cells j).trans (CC.out.2 j (by omega))
            have f1 := zrun (HR.out.fw j (by omega))
            have f2 := zrun (HR.out.fx j (by omega))
            have u1 := hd.out.free j
            have l1 := hd.out.in_heap
            have i1 : (0 : Int) ≤ (j : Int) := by omega
            have i2 : (j : Int) < (k : Int) := by omega
            have i3 : (j : Int) + 1 < (k : Int) := by omega
            have i4 : (0 : Int) ≤ (j : Int) + 1 := by omega
            have w1 : IntKind.i64.wrap (j : Int) = (j : Int) := IntWalk.i64_in _ ⟨by omega, by omega⟩
            have w2 : IntKind.i64.wrap ((j : Int) + 1) = (j : Int) + 1 := IntWalk.i64_in _ ⟨by omega, by omega⟩
            have w3 : IntKind.i64.wrap ((j : Int) - 1) = (j : Int) - 1 := IntWalk.i64_in _ ⟨by omega, by omega⟩
            go_wp2_with fail
            go_region
            all_goals
              go_wp2_with fail
              go_roundw
            all_goals first
              | (simp [intOf]; done)
              | (simp [intOf]; omega)
              | (simp only [intOf]; omega)
              | exact ⟨j, _, by omega, rfl, keep ((hc.out.elsewhere (p := ⟨gd, j, none⟩) hcd _).draws 1), keep ((hd.out.written j _).draws 1), keep (hx.out.put j _ (by omega) (fun i hi => by
                  by_cases e : i = j
                  · subst e; rw [if_neg (by omega), if_pos rfl]
                  · rw [if_neg e]
                    by_cases g : i < j
                    · rw [if_pos g, if_pos (by omega)]
                    · rw [if_neg g, if_neg (by omega)])), keep (Below.drew (hb.out.setCell (p := ⟨gd, j, none⟩) hbd _))⟩
end Go.Proofs.Ytmlocjcfcmifdaa
