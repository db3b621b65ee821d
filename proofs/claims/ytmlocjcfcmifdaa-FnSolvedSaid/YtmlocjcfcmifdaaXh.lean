/- Contracts: what a field leaves at each corner, a field less its mean, all rows solved one after another, by words. No condition but that each step runs. -/
import Derived.Test.YtmlocjcfcmifdaaXd
import Derived.Test.YtmlocjcfcmifdaaXe
import Derived.Test.YtmlocjcfcmifdaaXg
namespace Go.Proofs.Ytmlocjcfcmifdaa
open Go.RowKit Go.Sort Ieee
set_option linter.unusedSimpArgs false
set_option linter.unusedVariables false

theorem SolveRing_W (n : Nat) (hn1 : 3 ≤ n) (hn2 : n ≤ 40) {r p q : Nat → Nat} {t1 t2 t3 t4 t5 f : Nat} {z x : Nat → Nat} (R : RingW n r p q t1 t2 t3 t4 t5 f z x) (gr cr : Nat) (w : World) (hr : FW w gr n r) :
    Calls Try.prog 11 #[.slice (some ⟨gr, 0, none⟩) n cr] w fun e w' => ∃ (g : Nat) (cur : Array Value), e = .returned (.tuple #[.slice (some ⟨g, 0, none⟩) n n, .bool true]) ∧ w.heap.size ≤ g ∧ Has w' g 28 cur ∧ CW cur n x ∧ Below w.heap.size w w' := by
  obtain ⟨k, rfl⟩ : ∃ k, n = k + 1 := ⟨n - 1, by omega⟩
  exact SolveRing_ok k (by omega) (by omega) R gr cr w hr

set_option maxHeartbeats 2000000 in
theorem LaplaceOf_ok (W H : Nat) (h : Sd W H) (v : Nat → Nat) (A : Nat → Nat → Nat) (L : LapW W H v A) (g c : Nat) (w : World) (hv : FW w g (W * H) v) :
    Calls Try.prog 16 #[gV W H, .slice (some ⟨g, 0, none⟩) (W * H) c] w fun e w' => ∃ (g2 : Nat) (cur : Array Value), e = .returned (.tuple #[.slice (some ⟨g2, 0, none⟩) (W * H) (W * H), .bool true]) ∧ w.heap.size ≤ g2 ∧ Has w' g2 28 cur ∧ CW cur (W * H) (fun i => A i 4) ∧ Below w.heap.size w w' := by
  have IF := keep (fun w => xIsField W H h (some ⟨g, 0, none⟩) c w)
  have LA := keep (fun w hv => laplace_ok W H h v A L g c w hv)
  have P := keep (Has.made w 36 #[.int .i64 W, .int .i64 H])
  have B0 := keep ((Below.refl w.heap.size w).alloc (Nat.le_refl _) (.cells #[.int .i64 W, .int .i64 H] 36))
  have H0 := keep (hv.beside (.cells #[.int .i64 W, .int .i64 H] 36))
  generalize W * H = n at *
  clear h hv L
  unfold gV at *
  go_enter Try.func16, Try.ntmps16
  go_wp2_with fail
  refine (IF.out _).mono ?_
  rintro e w1 ⟨rfl, hb⟩
  have p1 := P.out.after hb
  have cg := p1.cells
  have H1 := keep (H0.out.after hb)
  have B1 := keep (B0.out.trans (hb.mono B0.out.size))
  clear hb P B0 H0 p1 IF
  go_wp2_with fail
  refine (LA.out _ H1.out).mono ?_
  rintro e w2 ⟨g2, cur, rfl, hg, hh, hc, hb⟩
  have B2 := keep (B1.out.trans (hb.mono B1.out.size))
  have HH := keep hh
  have HC := keep hc
  have lg : w.heap.size ≤ g2 := Nat.le_trans B1.out.size hg
  clear hb hh hc hg H1 B1 LA cg
  go_wp2_with fail
  go_ret2
  exact ⟨g2, cur, rfl, lg, HH.out, HC.out, B2.out⟩

set_option maxHeartbeats 2000000 in
theorem WithoutMean_ok (W H : Nat) (h : Sd W H) {a S : Nat → Nat} {m : Nat} {o : Nat → Nat} (M : MeanW (W * H) a S m o) (g c : Nat) (w : World) (hv : FW w g (W * H) a) :
    Calls Try.prog 17 #[gV W H, .slice (some ⟨g, 0, none⟩) (W * H) c] w fun e w' => ∃ (g2 d : Nat) (cur : Array Value), e = .returned (.tuple #[.slice (some ⟨g2, 0, none⟩) (W * H) d, .bool true]) ∧ w.heap.size ≤ g2 ∧ Has w' g2 28 cur ∧ CW cur (W * H) o ∧ Below w.heap.size w w' := by
  have IF := keep (fun w => xIsField W H h (some ⟨g, 0, none⟩) c w)
  have SL := sd_le W H h
  have LA := keep (fun w hv => withoutMeanW_ok (W * H) (by omega) (by omega) M g c w hv)
  have B0 := keep ((Below.refl w.heap.size w).alloc (Nat.le_refl _) (.cells #[.int .i64 W, .int .i64 H] 36))
  have H0 := keep (hv.beside (.cells #[.int .i64 W, .int .i64 H] 36))
  generalize W * H = n at *
  clear h hv M
  unfold gV at *
  go_enter Try.func17, Try.ntmps17
  go_wp2_with fail
  refine (IF.out _).mono ?_
  rintro e w1 ⟨rfl, hb⟩
  have H1 := keep (H0.out.after hb)
  have B1 := keep (B0.out.trans (hb.mono B0.out.size))
  clear hb B0 H0 IF
  go_wp2_with fail
  refine (LA.out _ H1.out).mono ?_
  rintro e w2 ⟨g2, d, cur, rfl, hg, hh, hc, _, hb⟩
  have B2 := keep (B1.out.trans (hb.mono B1.out.size))
  have HH := keep hh
  have HC := keep hc
  have lg : w.heap.size ≤ g2 := Nat.le_trans B1.out.size hg
  clear hb hh hc hg H1 B1 LA
  go_wp2_with fail
  go_ret2
  exact ⟨g2, d, cur, rfl, lg, HH.out, HC.out, B2.out⟩

theorem FW.byG {w w' : World} {g n r : Nat} {a : Nat → Nat} (h : FW w g n a) (hg : w.grownBy w' (some r)) (hne : g ≠ r) : FW w' g n a := by
  have hb := hg.block g h.1 (by intro e; injection e with e; exact hne e)
  refine ⟨Nat.lt_of_lt_of_le h.1 hg.size, fun i hi => ?_⟩
  have e := h.2 i hi
  unfold World.cell? at *
  simp only [hb]
  exact e
theorem setRow_by (w : World) (g : Nat) (cs : Array Value) : w.grownBy (w.setRow g cs) (some g) :=
  ⟨rfl, rfl, rfl, by simp [World.setRow], fun k hk hne => setRow_other w g k cs (fun e => hne (by rw [e]))⟩
theorem has_setRow {w : World} {g : Nat} {t : TypeId} {cur : Array Value} (h : Has w g t cur) (cs : Array Value) : Has (w.setRow g cs) g t cs := setRow_heap w g cur cs t (0, 0) h
theorem splice_at {α : Type} (L : List α) (off : Nat) (cs : List α) (h : off + cs.length ≤ L.length) (i : Nat) : (L.take off ++ (cs ++ L.drop (off + cs.length)))[i]? = if off ≤ i ∧ i < off + cs.length then cs[i - off]? else L[i]? := by
  have ht : (L.take off).length = off := by rw [List.length_take]; omega
  by_cases h1 : i < off
  · rw [if_neg (by omega), List.getElem?_append_left (by omega), List.getElem?_take_of_lt h1]
  · rw [List.getElem?_append_right (by omega), ht]
    by_cases h2 : i < off + cs.length
    · rw [if_pos ⟨by omega, h2⟩, List.getElem?_append_left (by omega)]
    · rw [if_neg (by omega), List.getElem?_append_right (by omega), List.getElem?_drop]
      congr 1
      omega
theorem CW.splice {cur : Array Value} {n : Nat} {f g x : Nat → Nat} (h : CW cur n f) (off W : Nat) (hw : off + W ≤ n) (hg : ∀ i, i < n → g i = if off ≤ i ∧ i < off + W then x (i - off) else f i) : CW (cur.toList.take off ++ (wList W x ++ cur.toList.drop (off + (wList W x).length))).toArray n g := by
  have hs := h.1
  have hl : off + (wList W x).length ≤ cur.toList.length := by rw [wList_length, Array.length_toList]; omega
  refine ⟨?_, fun i hi => ?_⟩
  · simp [wList_length]; omega
  · rw [List.getElem?_toArray, splice_at _ _ _ hl, wList_length, hg i hi]
    by_cases c : off ≤ i ∧ i < off + W
    · rw [if_pos c, if_pos c, wList_at W x (i - off) (by omega)]
    · rw [if_neg c, if_neg c, Array.getElem?_toList]
      exact h.2 i hi

/-- All rows solved, one after another: what is done. -/
structure SweepW (W H : Nat) (v c : Nat → Nat) (O T R X : Nat → Nat → Nat) : Prop where
  o0 : ∀ i, i < W * H → O 0 i = v i
  ft : ∀ y x : Nat, y < H → x < W → floatBits .add .f32 (c (x + W * y)) (O y (ix W H x ((y : Int) - 1))) = some (T y x)
  fr : ∀ y x : Nat, y < H → x < W → floatBits .add .f32 (T y x) (O y (ix W H x ((y : Int) + 1))) = some (R y x)
  ring : ∀ y, y < H → ∃ p q t1 t2 t3 t4 t5 f z, RingW W (R y) p q t1 t2 t3 t4 t5 f z (X y)
  os : ∀ y i, y < H → i < W * H → O (y + 1) i = if W * y ≤ i ∧ i < W * y + W then X y (i - W * y) else O y i

set_option maxHeartbeats 8000000 in
set_option maxRecDepth 20000 in
theorem SweepRows_ok (W H : Nat) (h : Sd W H) {v ch S : Nat → Nat} {m : Nat} {c : Nat → Nat} (M : MeanW (W * H) ch S m c) {O T R X : Nat → Nat → Nat} (SW : SweepW W H v c O T R X) (g1 g2 c1 c2 : Nat) (w : World) (hv : FW w g1 (W * H) v) (hc : FW w g2 (W * H) ch) :
    Calls Try.prog 15 #[gV W H, .slice (some ⟨g1, 0, none⟩) (W * H) c1, .slice (some ⟨g2, 0, none⟩) (W * H) c2] w fun e w' => ∃ (g d : Nat) (cur : Array Value), e = .returned (.tuple #[.slice (some ⟨g, 0, none⟩) (W * H) d, .bool true]) ∧ w.heap.size ≤ g ∧ Has w' g 28 cur ∧ CW cur (W * H) (O H) ∧ Below w.heap.size w w' := by
  have SL := sd_le W H h
  have IN := keep (ix_in W H)
  have IL := keep (in_lt W H)
  have IX := keep (fun u v => (ix_eq W H h u v).2)
  have ID := keep (fun u v a b c d w => xindex_w W H h u v a b c d w)
  have AF := keep (fun w => xareFields W H h (some ⟨g1, 0, none⟩) (some ⟨g2, 0, none⟩) c1 c2 w)
  have CL := keep (fun w hv => CloneW_ok g1 (W * H) c1 v w hv (by omega) (by omega))
  have WM := keep (fun w hc => withoutMeanW_ok (W * H) (by omega) (by omega) M g2 c2 w hc)
  have SR := keep (fun {r p q t1 t2 t3 t4 t5 f z x} R gr cr w hr => @SolveRing_W W (by have := h.1; omega) (by have := h.1; omega) r p q t1 t2 t3 t4 t5 f z x R gr cr w hr)
  have MK := keep (run_mkW W (by have := h.1; omega))
  have HS := keep SW
  have P := keep (Has.made w 36 #[.int .i64 W, .int .i64 H])
  have B0 := keep ((Below.refl w.heap.size w).alloc (Nat.le_refl _) (.cells #[.int .i64 W, .int .i64 H] 36))
  have V0 := keep (hv.beside (.cells #[.int .i64 W, .int .i64 H] 36))
  have C0 := keep (hc.beside (.cells #[.int .i64 W, .int .i64 H] 36))
  have sW := h.1
  have sH := h.2
  have c0 := P.out.cells
  have IY := keep (fun y (hy : y < H) => (show W * y + W ≤ W * H by rw [← Nat.mul_succ]; exact Nat.mul_le_mul_left _ hy))
  generalize eN : W * H = n at *
  have EN := keep eN
  clear eN h hv hc M SW
  unfold gV at *
  go_enter Try.func15, Try.ntmps15
  go_wp2_with fail
  refine (AF.out _).mono ?_
  rintro e w1 ⟨rfl, hb⟩
  have P1 := keep (P.out.after hb)
  have V1 := keep (V0.out.after hb)
  have C1 := keep (C0.out.after hb)
  have B1 := keep (B0.out.trans (hb.mono B0.out.size))
  clear hb P B0 V0 C0 AF c0
  go_wp2_with fail
  refine (CL.out _ V1.out).mono ?_
  rintro e w2 ⟨g8, d8, cur8, rfl, hg8, hh8, hc8, hd8, hb⟩
  have P2 := keep (P1.out.after hb)
  have C2 := keep (C1.out.after hb)
  have B2 := keep (B1.out.trans (hb.mono B1.out.size))
  have H2 := keep hh8
  have K2 : Kept (CW cur8 n (O 0)) := keep (hc8.congr (fun i hi => (HS.out.o0 i (by rw [EN.out]; exact hi)).symm))
  have n1 : w.heap.size < g8 := by have := P1.out.in_heap; omega
  have n2 : g8 < w2.heap.size := hh8.in_heap
  clear hb P1 V1 C1 B1 CL hg8 hh8 hc8
  go_wp2_with fail
  refine (WM.out _ C2.out).mono ?_
  rintro e w3 ⟨g9, d9, cur9, rfl, hg9, hh9, hc9, hd9, hb⟩
  have P3 := keep (P2.out.after hb)
  have B3 := keep (B2.out.trans (hb.mono B2.out.size))
  have H3 := keep (H2.out.after hb)
  have R3 := keep (hc9.fw hh9)
  have n3 : g8 < g9 := by omega
  clear hb P2 C2 B2 H2 WM hg9 hh9 hc9
  have cg := P3.out.cells
  go_wp2_with fail
  clear cg
  go_loopw [26] (fun s wr => ∃ (y : Nat) (cur : Array Value), y ≤ H ∧ s = .int .i64 y ∧ Kept (Has wr g8 28 cur) ∧ Kept (CW cur n (O y)) ∧ Kept (FW wr g9 n c) ∧ Kept (Has wr w.heap.size 36 #[.int .i64 W, .int .i64 H]) ∧ Kept (Below w.heap.size w wr)) (fun s _ => H - (intOf s).toNat)
  case atStart => exact ⟨0, cur8, Nat.zero_le _, rfl, H3, K2, R3, P3, B3⟩
  case round =>
    clear H3 K2 R3 P3 B3
    obtain ⟨y, cur, hy, rfl, hr, hc, hq, hg, hb⟩ := hrel
    by_cases hlt : y < H
    · have hlt' : (y : Int) < (H : Int) := by omega
      have cg := hg.out.cells
      have mk := MK.out wr
      have Z1 := keep (hr.out.beside (.cells (Array.replicate W (.float .f32 0)) 28))
      have Z2 := keep (hq.out.beside (.cells (Array.replicate W (.float .f32 0)) 28))
      have Z3 := keep (hg.out.beside (.cells (Array.replicate W (.float .f32 0)) 28))
      have Z4 := keep (hb.out.alloc hb.out.size (.cells (Array.replicate W (.float .f32 0)) 28))
      have Z5 := keep (Has.made wr 28 (Array.replicate W (.float .f32 0)))
      have cz := Z3.out.cells
      have m1 : g8 ≠ wr.heap.size := by have := hr.out.in_heap; omega
      have m2 : g9 ≠ wr.heap.size := by have := hq.out.1; omega
      have m3 : w.heap.size ≠ wr.heap.size := by have := hg.out.in_heap; omega
      have m4 : w.heap.size ≤ wr.heap.size := hb.out.size
      go_wp2_with fail
      clear cg cz mk hr hq hg hb
      generalize wr.alloc (.cells (Array.replicate W (.float .f32 0)) 28) = wa at *
      have lw : wr.heap.size < wa.heap.size := Z5.out.in_heap
      generalize wr.heap.size = gr at *
      go_loopw [34] (fun s wx => ∃ (x : Nat) (cr : Array Value), x ≤ W ∧ s = .int .i64 x ∧ Kept (Has wx gr 28 cr) ∧ Kept (cr.size = W) ∧ Kept (CW cr x (R y)) ∧ Kept (Has wx g8 28 cur) ∧ Kept (FW wx g9 n c) ∧ Kept (Has wx w.heap.size 36 #[.int .i64 W, .int .i64 H]) ∧ Kept (Below w.heap.size w wx)) (fun s _ => W - (intOf s).toNat)
      case atStart => exact ⟨0, _, Nat.zero_le _, rfl, Z5, keep (by simp), keep ⟨Nat.zero_le _, fun i hi => by omega⟩, Z1, Z2, Z3, Z4⟩
      case round =>
        clear Z1 Z2 Z3 Z4 Z5 lw
        obtain ⟨x, cr, hx, rfl, ha, hs, hf, hr, hq, hg, hb⟩ := hrel
        by_cases hlx : x < W
        · have hlx' : (x : Int) < (W : Int) := by omega
          have i1 := ID.out x y (by omega) (by omega) (by omega) (by omega)
          have i2 := keep (ID.out x ((y : Int) - 1) (by omega) (by omega) (by omega) (by omega))
          have i3 := keep (ID.out x ((y : Int) + 1) (by omega) (by omega) (by omega) (by omega))
          have kn := IL.out x y hlx hlt
          rw [IN.out x y hlx hlt] at i1
          have f1 := zrun (HS.out.ft y x hlt hlx)
          have f2 := zrun (HS.out.fr y x hlt hlx)
          have b1 := IX.out x ((y : Int) - 1)
          have b2 := IX.out x ((y : Int) + 1)
          generalize x + W * y = k at *
          generalize ix W H x ((y : Int) - 1) = u at *
          generalize ix W H x ((y : Int) + 1) = d at *
          have i1 := keep i1
          have v1 : IntKind.i64.wrap ((y : Int) - 1) = (y : Int) - 1 := IntWalk.i64_in _ ⟨by omega, by omega⟩
          have v2 : IntKind.i64.wrap ((y : Int) + 1) = (y : Int) + 1 := IntWalk.i64_in _ ⟨by omega, by omega⟩
          have d1 : (k : Int) < (n : Int) := by omega
          have d2 : (u : Int) < (n : Int) := by omega
          have d3 : (d : Int) < (n : Int) := by omega
          have hO := keep (hc.out.fw hr.out)
          have SOF : Kept (∀ wz, wr.grownBy wz (some gr) → wz.cell? ⟨w.heap.size, 0, none⟩ = some (.int .i64 W) ∧ wz.cell? ⟨w.heap.size, 1, none⟩ = some (.int .i64 H) ∧ wz.cell? ⟨g9, k, none⟩ = some (.float .f32 (c k)) ∧ wz.cell? ⟨g8, u, none⟩ = some (.float .f32 (O y u)) ∧ wz.cell? ⟨g8, d, none⟩ = some (.float .f32 (O y d)) ∧ wr.grownBy wz (some gr)) := keep (fun wz hB => ⟨(zhas_byG hg.out hB (by intro e; injection e with e; omega)).cells 0, (zhas_byG hg.out hB (by intro e; injection e with e; omega)).cells 1, (hq.out.byG hB m2).2 k kn, (hO.out.byG hB m1).2 u b1, (hO.out.byG hB m1).2 d b2, hB⟩)
          have ca := ((((ha.out.beside (.cells #[.int .i64 W, .int .i64 H] 36)).beside (.cells #[.int .i64 W, .int .i64 H] 36)).beside (.cells #[.int .i64 W, .int .i64 H] 36)))
          have CA := keep ca
          obtain ⟨v3, c3⟩ : ∃ q, (((wr.alloc (.cells #[.int .i64 W, .int .i64 H] 36)).alloc (.cells #[.int .i64 W, .int .i64 H] 36)).alloc (.cells #[.int .i64 W, .int .i64 H] 36)).cell? ⟨gr, x, none⟩ = some q := ⟨_, (ca.cells x).trans (Array.getElem?_eq_getElem (by rw [hs.out]; exact hlx))⟩
          have u3 := ca.free x
          have l3 := ca.in_heap
          clear ca
          go_wp2_with fail
          go_region_held (fun wz => wz.cell? ⟨w.heap.size, 0, none⟩ = some (.int .i64 W) ∧ wz.cell? ⟨w.heap.size, 1, none⟩ = some (.int .i64 H) ∧ wz.cell? ⟨g9, k, none⟩ = some (.float .f32 (c k)) ∧ wz.cell? ⟨g8, u, none⟩ = some (.float .f32 (O y u)) ∧ wz.cell? ⟨g8, d, none⟩ = some (.float .f32 (O y d)) ∧ wr.grownBy wz (some gr))
            ((refine SOF.out _ ?_; repeat' (first | (with_reducible assumption) | (with_reducible exact World.grownBy.refl _ _) | (with_reducible refine xgb_store ?_ _ _) | (with_reducible refine xgb_drawn ?_ _) | (with_reducible refine xgb_draw1 ?_) | (with_reducible refine zgb_alloc ?_ _))))
            (first
              | ((with_reducible refine (i1.out _).mono ?_); rintro e w4 ⟨rfl, m4, rfl⟩)
              | ((with_reducible refine (i2.out _).mono ?_); rintro e w5 ⟨rfl, m5, rfl⟩)
              | ((with_reducible refine (i3.out _).mono ?_); rintro e w6 ⟨rfl, m6, rfl⟩))
          all_goals
            have hh := fun j => (CA.out.written x (.float .f32 (R y x))).draws j
            have hB := fun j => xgb_drawn (xgb_store (zgb_alloc (zgb_alloc (zgb_alloc (World.grownBy.refl wr (some gr)) (.cells #[.int .i64 W, .int .i64 H] 36)) (.cells #[.int .i64 W, .int .i64 H] 36)) (.cells #[.int .i64 W, .int .i64 H] 36)) x (.float .f32 (R y x))) j
            have hh := keep hh
            have hB := keep hB
            clear c3 u3 l3 CA SOF i1 i2 i3 f1 f2
            go_wp2_with fail
            go_roundw
          all_goals first
            | (simp [intOf]; done)
            | (simp [intOf]; omega)
            | exact ⟨x + 1, _, by omega, by go_num, keep (hh.out _), keep (by rw [Array.size_setIfInBounds]; exact hs.out), keep (hf.out.snoc (by rw [hs.out]; exact hlx)), keep (zhas_byG hr.out (hB.out _) (by intro e; injection e with e; omega)), keep (hq.out.byG (hB.out _) m2), keep (zhas_byG hg.out (hB.out _) (by intro e; injection e with e; omega)), keep (hb.out.grown (hB.out _) hb.out.size (fun g e => by injection e with e; omega))⟩
        · obtain rfl : x = W := by omega
          have F5 := keep (hf.out.fw ha.out)
          obtain ⟨p, q, t1, t2, t3, t4, t5, f, z, RR⟩ := HS.out.ring y hlt
          go_wp2_with fail
          refine (SR.out RR gr _ _ F5.out).mono ?_
          rintro e w5 ⟨gs, cs, rfl, hgs, hhs, hcs, hb5⟩
          have H5 := keep (hr.out.after hb5)
          have Q5 := keep (hq.out.after hb5)
          have G5 := keep (hg.out.after hb5)
          have B5 := keep (hb.out.trans (hb5.mono hb.out.size))
          have S5 := keep (hcs.fw hhs)
          clear ha hs hf hr hq hg hb F5 RR hgs hhs hcs hb5
          have cg := G5.out.cells
          have i1 := ID.out 0 y (by omega) (by omega) (by omega) (by omega)
          have e0 := IN.out 0 y (by omega) hlt
          rw [show (((0 : Nat) : Int)) = (0 : Int) by rfl] at e0
          rw [e0] at i1
          rw [Nat.zero_add] at i1
          have i1 := keep i1
          have iy := IY.out y hlt
          have os := keep (fun i hi => HS.out.os y i hlt hi)
          have SZ := keep xsize_f32
          generalize x * y = k0 at *
          have k1 : (k0 : Int) ≤ (n : Int) := by omega
          have k2 : (n : Int) ≤ (d8 : Int) := by omega
          have k3 : (k0 : Int) ≤ (d8 : Int) := by omega
          have k4 : k0 ≤ n := by omega
          have k5 : n ≤ d8 := hd8
          have k6 : k0 ≤ d8 := by omega
          have s1 : ((n : Int) - (k0 : Int)).toNat = n - k0 := by omega
          go_wp2_with fail
          refine (i1.out _).mono ?_
          rintro e w6 ⟨rfl, m6, hw6⟩
          have hb6 : Below w5.heap.size w5 w6 := by
            rw [hw6]
            exact Below.drewN_of ((Below.refl w5.heap.size w5).alloc (Nat.le_refl _) _) _
          have H6 := keep (H5.out.after hb6)
          have Q6 := keep (Q5.out.after hb6)
          have G6 := keep (G5.out.after hb6)
          have B6 := keep (B5.out.trans (hb6.mono B5.out.size))
          have S6 := keep (S5.out.after hb6)
          clear hw6 hb6 H5 Q5 G5 B5 S5 cg i1
          go_wp2_with (refine wpList_copy_own rfl (.tmp 77) (.tmp 78) 27 27 rfl 28 Try.underlying27 SZ.out g8 k0 (n - k0) (d8 - k0) ⟨gs, 0, none⟩ x x rfl rfl cur 28 H6.out (wList x (X y)) ?hn ?hsrc ?hfit (wList_one x (X y)) ?_)
          case hn => rw [wList_length]; exact (Nat.min_eq_left (by omega)).symm
          case hsrc =>
            intro j u hj
            have hjl : j < x := by
              have := List.getElem?_eq_some_iff.1 hj
              obtain ⟨h1, _⟩ := this
              rwa [wList_length] at h1
            rw [Addr.add_lit, Nat.zero_add, S6.out.2 j hjl, ← hj, wList_at x (X y) j hjl]
          case hfit => rw [wList_length]; have := hc.out.1; omega
          have hB := setRow_by w6 g8 (cur.toList.take k0 ++ (wList x (X y) ++ cur.toList.drop (k0 + (wList x (X y)).length))).toArray
          have H7 := keep (has_setRow H6.out (cur.toList.take k0 ++ (wList x (X y) ++ cur.toList.drop (k0 + (wList x (X y)).length))).toArray)
          have K7 : Kept (CW (cur.toList.take k0 ++ (wList x (X y) ++ cur.toList.drop (k0 + (wList x (X y)).length))).toArray n (O (y + 1))) := keep (hc.out.splice k0 x iy (fun i hi => os.out i (by rw [EN.out]; exact hi)))
          have Q7 := keep (Q6.out.byG hB (by omega))
          have G7 := keep (zhas_byG G6.out hB (by intro e; injection e with e; omega))
          have B7 := keep (B6.out.grown hB B6.out.size (fun g e => by injection e with e; omega))
          clear hB H6 Q6 G6 B6 S6
          generalize (cur.toList.take k0 ++ (wList x (X y) ++ cur.toList.drop (k0 + (wList x (X y)).length))).toArray = cur2 at *
          generalize w6.setRow g8 cur2 = w7 at *
          go_wp2_with fail
          go_roundw
          case rel => exact ⟨y + 1, cur2, by omega, by go_num, H7, K7, Q7, G7, B7⟩
          case measure => simp [intOf]; omega
    · obtain rfl : y = H := by omega
      go_wp2_with fail
      go_ret2
      exact ⟨g8, d8, cur, rfl, by omega, hr.out, hc.out, hb.out⟩
end Go.Proofs.Ytmlocjcfcmifdaa
