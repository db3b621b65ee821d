/- Contracts: drawn places and particles, of any words below 2^32. No condition but that the bytes can be read. Printed by mkWe.py. -/
import Derived.Test.YtldnldgndjbhfaaDoorWd
import Derived.Test.YtldnldgndjbhfaaDoorGb
namespace Go.Proofs.YtldnldgndjbhfaaDoor
open Go.RowKit Go.Sort Ieee
set_option linter.unusedSimpArgs false
set_option linter.unusedVariables false

theorem wd32 (k : Nat) (n : Int) : wd single k n < 4294967296 := by
  have h := wd_lt single k n
  have e : 2 ^ single.width = 4294967296 := by decide
  rw [e] at h
  exact h
theorem p6new {w : World} {g : Nat} {t : TypeId} {x0 x1 x2 x3 : Value} (h : Has w g t #[x0, x1, x2, x3]) : ∀ j u, [x0, x1, x2, x3][j]? = some u → w.cell? ((⟨g, 0, none⟩ : Addr).add j) = some u := by
  intro j u hj
  rw [Addr.add_lit, Nat.zero_add, h.cells]
  simpa using hj
theorem infoPart : (Tryd.prog.info? 60).map (fun i => (i.zero, i.size, i.bytes)) = some (some (.agg #[.complex .f32 0 0, .complex .f32 0 0, .float .f32 0, .float .f32 0]), 4, 24) := by kernel_rfl
def p6cells (p : P6) : List Value := [.complex .f32 p.at'.1 p.at'.2, .complex .f32 p.speed.1 p.speed.2, .float .f32 p.charge, .float .f32 p.mass]
def p6arr (p : P6) : Array Value := #[.complex .f32 p.at'.1 p.at'.2, .complex .f32 p.speed.1 p.speed.2, .float .f32 p.charge, .float .f32 p.mass]
def p6row (ps : List P6) : List Value := ps.flatMap p6cells
theorem p6row_append (a b : List P6) : p6row (a ++ b) = p6row a ++ p6row b := List.flatMap_append ..

theorem zcadd' {a b c d re im : Nat} (h1 : floatBits .add .f32 a c = some re) (h2 : floatBits .add .f32 b d = some im) (t : TypeId) (w : World) : (binOp .add t (.complex .f32 a b) (.complex .f32 c d)).run Tryd.prog w = .ok (.complex .f32 re im) w :=
  run_complex_sum w .add (.inl rfl) t .f32 a b c d re im (by unfold cSumBits; rw [h1, h2]; rfl)
theorem zmin (W : Nat) (h : W ≤ 16) (w : World) : Calls Tryd.prog 43 #[.int .i64 16, .int .i64 W] w fun e w' => e = .returned (.int .i64 W) ∧ w' = w := by
  by_cases e : W = 16
  · subst e
    go_enter Tryd.func43, Tryd.ntmps43
    go_wp2_with fail
    go_ret
    exact ⟨rfl, rfl⟩
  · have h1 : ¬ (16 : Int) < (W : Int) := by omega
    go_enter Tryd.func43, Tryd.ntmps43
    go_wp2_with fail
    go_ret
    exact ⟨rfl, rfl⟩
theorem zmax (W : Nat) (w : World) : Calls Tryd.prog 42 #[.int .i64 0, .int .i64 W] w fun e w' => e = .returned (.int .i64 W) ∧ w' = w := by
  have h1 : ¬ (W : Int) < 0 := by omega
  go_enter Tryd.func42, Tryd.ntmps42
  go_wp2_with fail
  go_ret
  exact ⟨rfl, rfl⟩

set_option maxHeartbeats 1000000 in
theorem l02DrawPlace_ok (g : Nat) (a : Option Addr) (n c K : Nat) (w : World) (h : Drawn w g a n c K) (hK : K ≤ 500000) :
    Calls Tryd.prog 44 #[.pointer (some ⟨g, 0, none⟩)] w fun e w' => ∃ p : Nat × Nat, (p.1 < 4294967296 ∧ p.2 < 4294967296) ∧ e = .returned (.complex .f32 p.1 p.2) ∧ Drawn w' g a n c (K + 13) ∧ w.grownBy w' (some g) := by
  have O := keep (one_any 12 g a n c K w h (by omega) (by omega) (by omega))
  have DF := keep (fun K w h hK => l01DrawFloat_ok g a n c K w h hK)
  have P := keep (fun K w h hK => pick_ok 129 g a n c K w h hK (by omega) (by omega))
  clear h
  go_enter Tryd.func44, Tryd.ntmps44
  go_wp2_with fail
  refine O.out.mono ?_
  rintro e w1 ⟨b, rfl, hd, hg⟩
  have HD := keep hd
  have HG := keep hg
  clear hd hg
  cases b
  · go_wp2_with fail
    refine (P.out _ _ HD.out (by omega)).mono ?_
    rintro e w2 ⟨r, hr, rfl, hd, hg⟩
    have HD2 := keep hd
    have HG2 := keep (zgb_trans HG.out hg)
    have wr : IntKind.i64.wrap ((r : Int) - 32) = (r : Int) - 32 := IntWalk.i64_in _ ⟨by omega, by omega⟩
    have fx := frun (div8 ((r : Int) - 32) (by omega) (by omega))
    clear hd hg
    go_wp2_with fail
    refine (P.out _ _ HD2.out (by omega)).mono ?_
    rintro e w3 ⟨r2, hr2, rfl, hd, hg⟩
    have HD3 := keep (hd.mono (K' := K + 13) (by omega))
    have HG3 := keep (zgb_trans HG2.out hg)
    have wr2 : IntKind.i64.wrap ((r2 : Int) - 32) = (r2 : Int) - 32 := IntWalk.i64_in _ ⟨by omega, by omega⟩
    have fx2 := frun (div8 ((r2 : Int) - 32) (by omega) (by omega))
    clear hd hg
    go_wp2_with fail
    go_ret
    exact ⟨(_, _), ⟨wd32 _ _, wd32 _ _⟩, rfl, HD3.out, HG3.out⟩
  · go_wp2_with fail
    refine (DF.out _ _ HD.out (by omega)).mono ?_
    rintro e w2 ⟨x, hx, rfl, hd, hg⟩
    have HD2 := keep hd
    have HG2 := keep (zgb_trans HG.out hg)
    clear hd hg
    go_wp2_with fail
    refine (DF.out _ _ HD2.out (by omega)).mono ?_
    rintro e w3 ⟨y, hy, rfl, hd, hg⟩
    have HD3 := keep (hd.mono (K' := K + 13) (by omega))
    have HG3 := keep (zgb_trans HG2.out hg)
    clear hd hg
    go_wp2_with fail
    go_ret
    exact ⟨(x, y), ⟨hx, hy⟩, rfl, HD3.out, HG3.out⟩

set_option maxHeartbeats 16000000 in
set_option maxRecDepth 20000 in
theorem l02DrawParticles_ok (g gg : Nat) (a : Option Addr) (n c K N W H : Nat) (w : World) (h : Drawn w g a n c K) (hK : K ≤ 1000) (hN : N ≤ 6) (hgr : w.cell? ⟨gg, 0, none⟩ = some (.int .i64 W)) (hW : 4 ≤ W ∧ W ≤ 7) (hne : g ≠ gg) :
    Calls Tryd.prog 28 #[.pointer (some ⟨g, 0, none⟩), .pointer (some ⟨gg, 0, none⟩), .int .i64 N] w fun e w' => ∃ (ps : List P6) (A : Option Addr) (cp : Nat), ps.length = N ∧ (∀ p ∈ ps, p.ok) ∧ e = .returned (.slice A N cp) ∧ w'.ownsRow w.heap.size 60 4 (.slice A N cp) N (p6row ps) ∧ Drawn w' g a n c (K + 20 * N) ∧ w.grownBy w' (some g) := by
  have DO := keep (fun K w1 h hK => l02DrawOne_any g a n c K w1 h hK)
  have PK := keep (fun K w h hK => pick_ok 80 g a n c K w h hK (by omega) (by omega))
  have DP := keep (fun K w h hK => l02DrawPlace_ok g a n c K w h hK)
  have DF := keep (fun K w h hK => l01DrawFloat_ok g a n c K w h hK)
  have MN := keep (fun w => zmin W (by omega) w)
  have MX := keep (fun w => zmax W w)
  have lg := h.lt
  have GR := keep (fun (w' : World) (hg : w.grownBy w' (some g)) => show w'.cell? ⟨gg, 0, none⟩ = some (.int .i64 W) from (World.cell?_of_block (a := ⟨gg, 0, none⟩) (hg.block gg (World.block_lt_of_cell? w _ hgr) (fun e => hne (by first | exact Option.some.inj e | exact (Option.some.inj e).symm)))).trans hgr)
  have lgg : gg < w.heap.size := World.block_lt_of_cell? w _ hgr
  have D1 := keep (h.alloc (.cells #[] 60))
  have G1 := keep (zgb_alloc (World.grownBy.refl w (some g)) (.cells #[] 60))
  have R1 := keep (Has.made w 60 #[])
  have hw4 : IntKind.i64.wrap ((W : Int) - 4) = (W : Int) - 4 := IntWalk.i64_in _ ⟨by omega, by omega⟩
  have hfi : floatOfInt .f32 ((W : Int) - 4) = wd single 3 (8 * ((W : Int) - 4)) := by
    obtain rfl | rfl | rfl | rfl : W = 4 ∨ W = 5 ∨ W = 6 ∨ W = 7 := by omega
    all_goals decide +kernel
  clear h hgr
  go_enter Tryd.func28, Tryd.ntmps28
  go_wp2_with fail
  go_loopw [2, 7] (fun t s wr => ∃ (j : Nat) (ps : List P6) (A : Option Addr) (cp : Nat), j + ps.length = N ∧ t = .int .i64 j ∧ s = .slice A ps.length cp ∧ Kept (∀ p ∈ ps, p.ok) ∧ Kept (wr.ownsRow w.heap.size 60 4 (.slice A ps.length cp) ps.length (p6row ps)) ∧ Kept (Drawn wr g a n c (K + 20 * ps.length)) ∧ Kept (w.grownBy wr (some g))) (fun t _ _ => (intOf t).toNat)
  case atStart => exact ⟨N, [], _, _, rfl, rfl, rfl, keep (fun p h => by cases h), keep ⟨rfl, .inr ⟨w.heap.size, 0, #[], rfl, Nat.le_refl _, R1.out, Nat.le_refl _, by simp [maxLen], rfl, rfl⟩⟩, D1, G1⟩
  case round =>
    clear D1 R1 G1
    obtain ⟨j, ps, A, cp, hj, rfl, rfl, hok, ho, hd, hg⟩ := hrel
    by_cases hlt : 0 < j
    · have hi : ((0 : Int) < (j : Int)) := by omega
      have wj : IntKind.i64.wrap ((j : Int) - 1) = ((j - 1 : Nat) : Int) := by rw [IntWalk.i64_in _ ⟨by omega, by omega⟩]; omega
      obtain ⟨i0, hi0, hz0, hz1, hz2⟩ := info_parts infoPart
      have HI := keep hi0
      have HZ0 := keep hz0
      have HZ1 := keep hz1
      have HZ2 := keep hz2
      clear hi0 hz0 hz1 hz2
      go_wp2_with fail
      refine (DO.out _ _ hd.out (by omega)).mono ?_
      rintro e w3 ⟨p, hp, rfl, hd3, hg3⟩
      have G3 := keep (zgb_trans hg.out hg3)
      have O3 := keep (zown_byG ho.out hg3 lg)
      have D3 := keep hd3
      obtain ⟨⟨x0, x1⟩, ⟨y0, y1⟩, _⟩ := hp
      have fx := keep (fadd (k := 3) (a := p.x) (b := 8 * ((W : Int) - 4)) (by omega) (by omega) (by omega) (by omega))
      have fy := keep (show floatBits .add .f32 (wd single 3 p.y) 0 = some (wd single 3 p.y) from by
        have e := fadd (k := 3) (a := p.y) (b := 0) (by omega) (by omega) (by omega) (by omega)
        rw [Int.add_zero, wd_zero] at e
        exact e)
      have q0 : P6.ok ⟨(wd single 3 (p.x + 8 * ((W : Int) - 4)), wd single 3 p.y), (wd single 3 p.u, wd single 3 p.v), wd single 1 p.q, wd single 2 p.m⟩ := ⟨⟨wd32 _ _, wd32 _ _⟩, ⟨wd32 _ _, wd32 _ _⟩, wd32 _ _, wd32 _ _⟩
      have Q0 := keep q0
      unfold GP.agg
      clear hd3 hg3 hd ho hg x0 x1 y0 y1 q0
      generalize wd single 3 (p.x + 8 * ((W : Int) - 4)) = X1 at *
      generalize wd single 3 p.x = X0 at *
      generalize wd single 3 p.y = Y at *
      generalize wd single 3 p.u = U at *
      generalize wd single 3 p.v = V at *
      generalize wd single 1 p.q = Q at *
      generalize wd single 2 p.m = M at *
      rw [← hfi] at fx
      clear hfi
      have Z3 := keep (Has.made w3 60 #[.complex .f32 X0 Y, .complex .f32 U V, .float .f32 Q, .float .f32 M])
      have D4 := keep (D3.out.alloc (.cells #[.complex .f32 X0 Y, .complex .f32 U V, .float .f32 Q, .float .f32 M] 60))
      have O4 := keep (O3.out.alloc (.cells #[.complex .f32 X0 Y, .complex .f32 U V, .float .f32 Q, .float .f32 M] 60))
      have G4 := keep (zgb_alloc G3.out (.cells #[.complex .f32 X0 Y, .complex .f32 U V, .float .f32 Q, .float .f32 M] 60))
      have fxr := zcadd' fx.out fy.out
      have cgg := GR.out _ G4.out
      have cz := Z3.out.cells 0
      have uz := Z3.out.free 0
      have zw3 := G3.out.size
      have L3 := keep (fun k e => (O3.out.lt k e).2)
      clear fx fy
      go_upto_region 5 with fail
      go_cut [27] (fun s27 wx => s27 = .complex .f32 X1 Y ∧ wx = (w3.alloc (.cells #[.complex .f32 X1 Y, .complex .f32 U V, .float .f32 Q, .float .f32 M] 60)).drew)
      case first =>
        go_region_law (first
          | (go_simp; go_at_call 43; refine (MN.out _).mono ?_; rintro e w' ⟨rfl, rfl⟩)
          | (go_simp; go_at_call 42; refine (MX.out _).mono ?_; rintro e w' ⟨rfl, rfl⟩))
        all_goals
          go_wp2_with fail
          go_meet
          exact ⟨rfl, rfl⟩
      case rest =>
        obtain ⟨rfl, hwc⟩ := hcut
        have DW : Below w3.heap.size w3 wc := by rw [hwc]; exact Below.drew ((Below.refl _ w3).alloc (Nat.le_refl _) _)
        have lg3 : g < w3.heap.size := Nat.lt_of_lt_of_le lg zw3
        have Z5 := keep (show Has wc w3.heap.size 60 #[.complex .f32 X1 Y, .complex .f32 U V, .float .f32 Q, .float .f32 M] by rw [hwc]; exact Has.made w3 60 _)
        have D5 := keep (D3.out.later DW lg3)
        have O5 := keep (owns_below O3.out DW)
        have G5 := keep (zgb_below G3.out DW zw3)
        clear hwc DW D4 O4 G4 Z3 cgg cz uz MN MX fxr D3 O3 G3 GR
        go_wp2_with fail
        refine (PK.out _ _ D5.out (by omega)).mono ?_
        rintro e w5 ⟨k, hk, rfl, hd, hg⟩
        have Z6 := keep (zhas_byG Z5.out hg (by intro e; injection e with e; omega))
        have O6 := keep (zown_byG O5.out hg lg)
        have G6 := keep (zgb_trans G5.out hg)
        have D6 := keep hd
        clear hd hg Z5 O5 G5 D5
        obtain rfl | rfl | rfl | rfl | hk4 : k = 0 ∨ k = 1 ∨ k = 2 ∨ k = 3 ∨ 4 ≤ k := by omega
        · go_wp2_with fail
          refine (DP.out _ _ D6.out (by omega)).mono ?_
          rintro e w7 ⟨⟨z1, z2⟩, ⟨hz1, hz2⟩, rfl, hd, hg⟩
          have Z7 := keep (zhas_byG Z6.out hg (by intro e; injection e with e; omega))
          have O7 := keep (zown_byG O6.out hg lg)
          have G7 := keep (zgb_trans G6.out hg)
          have D7 := keep hd
          have cz := Z7.out.cells 0
          have uz := Z7.out.free 0
          have lz := Z7.out.in_heap
          have HPO := keep (show P6.ok ⟨(z1, z2), (U, V), Q, M⟩ from ⟨⟨hz1, hz2⟩, Q0.out.2⟩)
          have BS : Below w3.heap.size w7 (w7.setCell ⟨w3.heap.size, 0, none⟩ (.complex .f32 z1 z2)) := (Below.refl w3.heap.size w7).setCell (p := ⟨w3.heap.size, 0, none⟩) (Nat.le_refl _) _
          have Z8 := keep (show Has (w7.setCell ⟨w3.heap.size, 0, none⟩ (.complex .f32 z1 z2)) w3.heap.size 60 #[.complex .f32 z1 z2, .complex .f32 U V, .float .f32 Q, .float .f32 M] from Z7.out.written 0 (.complex .f32 z1 z2))
          have O8 := keep (show World.ownsRow (w7.setCell ⟨w3.heap.size, 0, none⟩ (.complex .f32 z1 z2)) w.heap.size 60 4 (.slice A ps.length cp) ps.length (p6row ps) from ownsRow_setCell_other O7.out (fun e => by have := (L3.out w3.heap.size e); omega) _)
          have G8 := keep (zgb_below G7.out BS zw3)
          have D8 := keep (D7.out.later BS lg3)
          clear hd hg BS Z6 O6 G6 D6 Z7 O7 G7 D7 Q0
          go_upto_region 15 with fail
          generalize w7.setCell ⟨w3.heap.size, 0, none⟩ (.complex .f32 z1 z2) = ws at *
          clear cz uz lz
          have zG := G8.out.size
          have k0 := (Z8).out.cells 0
          have k1 := (Z8).out.cells 1
          have k2 := (Z8).out.cells 2
          have k3 := (Z8).out.cells 3
          go_wp2_with (at_builtin; go_loud (refine wpList_append_own_at _ rfl _ _ 28 rfl w.heap.size 60 i0 _ 4 24 Tryd.underlying28 HI.out HZ0.out HZ1.out HZ2.out rfl (by decide) (.slice A ps.length cp) ps.length _ rfl (O8.out.alloc _) ⟨ws.heap.size, 0, none⟩ 1 1 [.complex .f32 z1 z2, .complex .f32 U V, .float .f32 Q, .float .f32 M] rfl rfl ?c1 ?c2 ?c3 ?c4 ?c5 ?_))
          case c1 =>
            have r := Has.made ws 60 #[.complex .f32 z1 z2, .complex .f32 U V, .float .f32 Q, .float .f32 M]
            intro j u hj
            exact p6new r j u hj
          case c2 =>
            intro u hu
            simp only [List.mem_cons, List.not_mem_nil, or_false] at hu
            rcases hu with rfl | rfl | rfl | rfl <;> rfl
          case c3 => unfold maxLen; omega
          case c4 => omega
          case c5 => first | omega | (simp only [World.size_alloc]; omega)
          intro v' w9 hown' hgrow _ _
          obtain ⟨g', cap', rfl, hB', hlt'⟩ := hown'.form (by omega)
          have hL := O8.out.lt
          have bX : Below w.heap.size (ws.alloc (.cells #[.complex .f32 z1 z2, .complex .f32 U V, .float .f32 Q, .float .f32 M] 60)) w9 := (Below.refl w.heap.size _).grown hgrow (by simp only [World.size_alloc]; omega) (fun b e => (hL b e).1)
          have D9 := keep ((D8.out.alloc (.cells #[.complex .f32 z1 z2, .complex .f32 U V, .float .f32 Q, .float .f32 M] 60)).later bX lg)
          have G9 := keep (zgb_below (zgb_alloc G8.out (.cells #[.complex .f32 z1 z2, .complex .f32 U V, .float .f32 Q, .float .f32 M] 60)) bX (Nat.le_refl _))
          have OW := keep hown'
          clear hown' hgrow bX hL
          go_wp2_with fail
          go_roundw
          case rel => exact ⟨j - 1, ps ++ [⟨(z1, z2), (U, V), Q, M⟩], _, _, by rw [List.length_append]; show j - 1 + (ps.length + 1) = N; omega, by go_num, by rw [List.length_append]; rfl, keep (fun x hx => by
              rcases List.mem_append.1 hx with h1 | h1
              · exact hok.out x h1
              · rw [List.mem_singleton.1 h1]; exact HPO.out), keep (by
              have e := OW.out
              rw [p6row_append, List.length_append]
              exact e), keep (D9.out.mono (by rw [List.length_append]; show _ ≤ K + 20 * (ps.length + 1); omega)), G9⟩
          case measure => simp [intOf]; omega
        · go_wp2_with fail
          refine (DF.out _ _ D6.out (by omega)).mono ?_
          rintro e w7 ⟨z1, hz1, rfl, hd, hg⟩
          have Z7 := keep (zhas_byG Z6.out hg (by intro e; injection e with e; omega))
          have O7 := keep (zown_byG O6.out hg lg)
          have G7 := keep (zgb_trans G6.out hg)
          have D7 := keep hd
          have cz := Z7.out.cells 3
          have uz := Z7.out.free 3
          have lz := Z7.out.in_heap
          have HPO := keep (show P6.ok ⟨(X1, Y), (U, V), Q, z1⟩ from ⟨Q0.out.1, Q0.out.2.1, Q0.out.2.2.1, hz1⟩)
          have BS : Below w3.heap.size w7 (w7.setCell ⟨w3.heap.size, 3, none⟩ (.float .f32 z1)) := (Below.refl w3.heap.size w7).setCell (p := ⟨w3.heap.size, 3, none⟩) (Nat.le_refl _) _
          have Z8 := keep (show Has (w7.setCell ⟨w3.heap.size, 3, none⟩ (.float .f32 z1)) w3.heap.size 60 #[.complex .f32 X1 Y, .complex .f32 U V, .float .f32 Q, .float .f32 z1] from Z7.out.written 3 (.float .f32 z1))
          have O8 := keep (show World.ownsRow (w7.setCell ⟨w3.heap.size, 3, none⟩ (.float .f32 z1)) w.heap.size 60 4 (.slice A ps.length cp) ps.length (p6row ps) from ownsRow_setCell_other O7.out (fun e => by have := (L3.out w3.heap.size e); omega) _)
          have G8 := keep (zgb_below G7.out BS zw3)
          have D8 := keep (D7.out.later BS lg3)
          clear hd hg BS Z6 O6 G6 D6 Z7 O7 G7 D7 Q0
          go_upto_region 15 with fail
          generalize w7.setCell ⟨w3.heap.size, 3, none⟩ (.float .f32 z1) = ws at *
          clear cz uz lz
          have zG := G8.out.size
          have k0 := (Z8).out.cells 0
          have k1 := (Z8).out.cells 1
          have k2 := (Z8).out.cells 2
          have k3 := (Z8).out.cells 3
          go_wp2_with (at_builtin; go_loud (refine wpList_append_own_at _ rfl _ _ 28 rfl w.heap.size 60 i0 _ 4 24 Tryd.underlying28 HI.out HZ0.out HZ1.out HZ2.out rfl (by decide) (.slice A ps.length cp) ps.length _ rfl (O8.out.alloc _) ⟨ws.heap.size, 0, none⟩ 1 1 [.complex .f32 X1 Y, .complex .f32 U V, .float .f32 Q, .float .f32 z1] rfl rfl ?c1 ?c2 ?c3 ?c4 ?c5 ?_))
          case c1 =>
            have r := Has.made ws 60 #[.complex .f32 X1 Y, .complex .f32 U V, .float .f32 Q, .float .f32 z1]
            intro j u hj
            exact p6new r j u hj
          case c2 =>
            intro u hu
            simp only [List.mem_cons, List.not_mem_nil, or_false] at hu
            rcases hu with rfl | rfl | rfl | rfl <;> rfl
          case c3 => unfold maxLen; omega
          case c4 => omega
          case c5 => first | omega | (simp only [World.size_alloc]; omega)
          intro v' w9 hown' hgrow _ _
          obtain ⟨g', cap', rfl, hB', hlt'⟩ := hown'.form (by omega)
          have hL := O8.out.lt
          have bX : Below w.heap.size (ws.alloc (.cells #[.complex .f32 X1 Y, .complex .f32 U V, .float .f32 Q, .float .f32 z1] 60)) w9 := (Below.refl w.heap.size _).grown hgrow (by simp only [World.size_alloc]; omega) (fun b e => (hL b e).1)
          have D9 := keep ((D8.out.alloc (.cells #[.complex .f32 X1 Y, .complex .f32 U V, .float .f32 Q, .float .f32 z1] 60)).later bX lg)
          have G9 := keep (zgb_below (zgb_alloc G8.out (.cells #[.complex .f32 X1 Y, .complex .f32 U V, .float .f32 Q, .float .f32 z1] 60)) bX (Nat.le_refl _))
          have OW := keep hown'
          clear hown' hgrow bX hL
          go_wp2_with fail
          go_roundw
          case rel => exact ⟨j - 1, ps ++ [⟨(X1, Y), (U, V), Q, z1⟩], _, _, by rw [List.length_append]; show j - 1 + (ps.length + 1) = N; omega, by go_num, by rw [List.length_append]; rfl, keep (fun x hx => by
              rcases List.mem_append.1 hx with h1 | h1
              · exact hok.out x h1
              · rw [List.mem_singleton.1 h1]; exact HPO.out), keep (by
              have e := OW.out
              rw [p6row_append, List.length_append]
              exact e), keep (D9.out.mono (by rw [List.length_append]; show _ ≤ K + 20 * (ps.length + 1); omega)), G9⟩
          case measure => simp [intOf]; omega
        · go_wp2_with fail
          refine (DF.out _ _ D6.out (by omega)).mono ?_
          rintro e w7 ⟨z1, hz1, rfl, hd, hg⟩
          have Z7 := keep (zhas_byG Z6.out hg (by intro e; injection e with e; omega))
          have O7 := keep (zown_byG O6.out hg lg)
          have G7 := keep (zgb_trans G6.out hg)
          have D7 := keep hd
          have cz := Z7.out.cells 2
          have uz := Z7.out.free 2
          have lz := Z7.out.in_heap
          have HPO := keep (show P6.ok ⟨(X1, Y), (U, V), z1, M⟩ from ⟨Q0.out.1, Q0.out.2.1, hz1, Q0.out.2.2.2⟩)
          have BS : Below w3.heap.size w7 (w7.setCell ⟨w3.heap.size, 2, none⟩ (.float .f32 z1)) := (Below.refl w3.heap.size w7).setCell (p := ⟨w3.heap.size, 2, none⟩) (Nat.le_refl _) _
          have Z8 := keep (show Has (w7.setCell ⟨w3.heap.size, 2, none⟩ (.float .f32 z1)) w3.heap.size 60 #[.complex .f32 X1 Y, .complex .f32 U V, .float .f32 z1, .float .f32 M] from Z7.out.written 2 (.float .f32 z1))
          have O8 := keep (show World.ownsRow (w7.setCell ⟨w3.heap.size, 2, none⟩ (.float .f32 z1)) w.heap.size 60 4 (.slice A ps.length cp) ps.length (p6row ps) from ownsRow_setCell_other O7.out (fun e => by have := (L3.out w3.heap.size e); omega) _)
          have G8 := keep (zgb_below G7.out BS zw3)
          have D8 := keep (D7.out.later BS lg3)
          clear hd hg BS Z6 O6 G6 D6 Z7 O7 G7 D7 Q0
          go_upto_region 15 with fail
          generalize w7.setCell ⟨w3.heap.size, 2, none⟩ (.float .f32 z1) = ws at *
          clear cz uz lz
          have zG := G8.out.size
          have k0 := (Z8).out.cells 0
          have k1 := (Z8).out.cells 1
          have k2 := (Z8).out.cells 2
          have k3 := (Z8).out.cells 3
          go_wp2_with (at_builtin; go_loud (refine wpList_append_own_at _ rfl _ _ 28 rfl w.heap.size 60 i0 _ 4 24 Tryd.underlying28 HI.out HZ0.out HZ1.out HZ2.out rfl (by decide) (.slice A ps.length cp) ps.length _ rfl (O8.out.alloc _) ⟨ws.heap.size, 0, none⟩ 1 1 [.complex .f32 X1 Y, .complex .f32 U V, .float .f32 z1, .float .f32 M] rfl rfl ?c1 ?c2 ?c3 ?c4 ?c5 ?_))
          case c1 =>
            have r := Has.made ws 60 #[.complex .f32 X1 Y, .complex .f32 U V, .float .f32 z1, .float .f32 M]
            intro j u hj
            exact p6new r j u hj
          case c2 =>
            intro u hu
            simp only [List.mem_cons, List.not_mem_nil, or_false] at hu
            rcases hu with rfl | rfl | rfl | rfl <;> rfl
          case c3 => unfold maxLen; omega
          case c4 => omega
          case c5 => first | omega | (simp only [World.size_alloc]; omega)
          intro v' w9 hown' hgrow _ _
          obtain ⟨g', cap', rfl, hB', hlt'⟩ := hown'.form (by omega)
          have hL := O8.out.lt
          have bX : Below w.heap.size (ws.alloc (.cells #[.complex .f32 X1 Y, .complex .f32 U V, .float .f32 z1, .float .f32 M] 60)) w9 := (Below.refl w.heap.size _).grown hgrow (by simp only [World.size_alloc]; omega) (fun b e => (hL b e).1)
          have D9 := keep ((D8.out.alloc (.cells #[.complex .f32 X1 Y, .complex .f32 U V, .float .f32 z1, .float .f32 M] 60)).later bX lg)
          have G9 := keep (zgb_below (zgb_alloc G8.out (.cells #[.complex .f32 X1 Y, .complex .f32 U V, .float .f32 z1, .float .f32 M] 60)) bX (Nat.le_refl _))
          have OW := keep hown'
          clear hown' hgrow bX hL
          go_wp2_with fail
          go_roundw
          case rel => exact ⟨j - 1, ps ++ [⟨(X1, Y), (U, V), z1, M⟩], _, _, by rw [List.length_append]; show j - 1 + (ps.length + 1) = N; omega, by go_num, by rw [List.length_append]; rfl, keep (fun x hx => by
              rcases List.mem_append.1 hx with h1 | h1
              · exact hok.out x h1
              · rw [List.mem_singleton.1 h1]; exact HPO.out), keep (by
              have e := OW.out
              rw [p6row_append, List.length_append]
              exact e), keep (D9.out.mono (by rw [List.length_append]; show _ ≤ K + 20 * (ps.length + 1); omega)), G9⟩
          case measure => simp [intOf]; omega
        · go_wp2_with fail
          refine (DP.out _ _ D6.out (by omega)).mono ?_
          rintro e w7 ⟨⟨z1, z2⟩, ⟨hz1, hz2⟩, rfl, hd, hg⟩
          have Z7 := keep (zhas_byG Z6.out hg (by intro e; injection e with e; omega))
          have O7 := keep (zown_byG O6.out hg lg)
          have G7 := keep (zgb_trans G6.out hg)
          have D7 := keep hd
          have cz := Z7.out.cells 1
          have uz := Z7.out.free 1
          have lz := Z7.out.in_heap
          have HPO := keep (show P6.ok ⟨(X1, Y), (z1, z2), Q, M⟩ from ⟨Q0.out.1, ⟨hz1, hz2⟩, Q0.out.2.2⟩)
          have BS : Below w3.heap.size w7 (w7.setCell ⟨w3.heap.size, 1, none⟩ (.complex .f32 z1 z2)) := (Below.refl w3.heap.size w7).setCell (p := ⟨w3.heap.size, 1, none⟩) (Nat.le_refl _) _
          have Z8 := keep (show Has (w7.setCell ⟨w3.heap.size, 1, none⟩ (.complex .f32 z1 z2)) w3.heap.size 60 #[.complex .f32 X1 Y, .complex .f32 z1 z2, .float .f32 Q, .float .f32 M] from Z7.out.written 1 (.complex .f32 z1 z2))
          have O8 := keep (show World.ownsRow (w7.setCell ⟨w3.heap.size, 1, none⟩ (.complex .f32 z1 z2)) w.heap.size 60 4 (.slice A ps.length cp) ps.length (p6row ps) from ownsRow_setCell_other O7.out (fun e => by have := (L3.out w3.heap.size e); omega) _)
          have G8 := keep (zgb_below G7.out BS zw3)
          have D8 := keep (D7.out.later BS lg3)
          clear hd hg BS Z6 O6 G6 D6 Z7 O7 G7 D7 Q0
          go_upto_region 15 with fail
          generalize w7.setCell ⟨w3.heap.size, 1, none⟩ (.complex .f32 z1 z2) = ws at *
          clear cz uz lz
          have zG := G8.out.size
          have k0 := (Z8).out.cells 0
          have k1 := (Z8).out.cells 1
          have k2 := (Z8).out.cells 2
          have k3 := (Z8).out.cells 3
          go_wp2_with (at_builtin; go_loud (refine wpList_append_own_at _ rfl _ _ 28 rfl w.heap.size 60 i0 _ 4 24 Tryd.underlying28 HI.out HZ0.out HZ1.out HZ2.out rfl (by decide) (.slice A ps.length cp) ps.length _ rfl (O8.out.alloc _) ⟨ws.heap.size, 0, none⟩ 1 1 [.complex .f32 X1 Y, .complex .f32 z1 z2, .float .f32 Q, .float .f32 M] rfl rfl ?c1 ?c2 ?c3 ?c4 ?c5 ?_))
          case c1 =>
            have r := Has.made ws 60 #[.complex .f32 X1 Y, .complex .f32 z1 z2, .float .f32 Q, .float .f32 M]
            intro j u hj
            exact p6new r j u hj
          case c2 =>
            intro u hu
            simp only [List.mem_cons, List.not_mem_nil, or_false] at hu
            rcases hu with rfl | rfl | rfl | rfl <;> rfl
          case c3 => unfold maxLen; omega
          case c4 => omega
          case c5 => first | omega | (simp only [World.size_alloc]; omega)
          intro v' w9 hown' hgrow _ _
          obtain ⟨g', cap', rfl, hB', hlt'⟩ := hown'.form (by omega)
          have hL := O8.out.lt
          have bX : Below w.heap.size (ws.alloc (.cells #[.complex .f32 X1 Y, .complex .f32 z1 z2, .float .f32 Q, .float .f32 M] 60)) w9 := (Below.refl w.heap.size _).grown hgrow (by simp only [World.size_alloc]; omega) (fun b e => (hL b e).1)
          have D9 := keep ((D8.out.alloc (.cells #[.complex .f32 X1 Y, .complex .f32 z1 z2, .float .f32 Q, .float .f32 M] 60)).later bX lg)
          have G9 := keep (zgb_below (zgb_alloc G8.out (.cells #[.complex .f32 X1 Y, .complex .f32 z1 z2, .float .f32 Q, .float .f32 M] 60)) bX (Nat.le_refl _))
          have OW := keep hown'
          clear hown' hgrow bX hL
          go_wp2_with fail
          go_roundw
          case rel => exact ⟨j - 1, ps ++ [⟨(X1, Y), (z1, z2), Q, M⟩], _, _, by rw [List.length_append]; show j - 1 + (ps.length + 1) = N; omega, by go_num, by rw [List.length_append]; rfl, keep (fun x hx => by
              rcases List.mem_append.1 hx with h1 | h1
              · exact hok.out x h1
              · rw [List.mem_singleton.1 h1]; exact HPO.out), keep (by
              have e := OW.out
              rw [p6row_append, List.length_append]
              exact e), keep (D9.out.mono (by rw [List.length_append]; show _ ≤ K + 20 * (ps.length + 1); omega)), G9⟩
          case measure => simp [intOf]; omega
        · have e0 : ¬ ((k : Int) = 0) := by omega
          have e1 : ¬ ((k : Int) = 1) := by omega
          have e2 : ¬ ((k : Int) = 2) := by omega
          have e3 : ¬ ((k : Int) = 3) := by omega
          have f0 : ((k : Int) == 0) = false := by rw [beq_eq_false_iff_ne]; exact e0
          have f1 : ((k : Int) == 1) = false := by rw [beq_eq_false_iff_ne]; exact e1
          have f2 : ((k : Int) == 2) = false := by rw [beq_eq_false_iff_ne]; exact e2
          have f3 : ((k : Int) == 3) = false := by rw [beq_eq_false_iff_ne]; exact e3
          have HPO := keep (show P6.ok ⟨(X1, Y), (U, V), Q, M⟩ from Q0.out)
          clear Q0 e0 e1 e2 e3
          have zG := G6.out.size
          have k0 := (Z6).out.cells 0
          have k1 := (Z6).out.cells 1
          have k2 := (Z6).out.cells 2
          have k3 := (Z6).out.cells 3
          go_wp2_with (at_builtin; go_loud (refine wpList_append_own_at _ rfl _ _ 28 rfl w.heap.size 60 i0 _ 4 24 Tryd.underlying28 HI.out HZ0.out HZ1.out HZ2.out rfl (by decide) (.slice A ps.length cp) ps.length _ rfl (O6.out.alloc _) ⟨w5.heap.size, 0, none⟩ 1 1 [.complex .f32 X1 Y, .complex .f32 U V, .float .f32 Q, .float .f32 M] rfl rfl ?c1 ?c2 ?c3 ?c4 ?c5 ?_))
          case c1 =>
            have r := Has.made w5 60 #[.complex .f32 X1 Y, .complex .f32 U V, .float .f32 Q, .float .f32 M]
            intro j u hj
            exact p6new r j u hj
          case c2 =>
            intro u hu
            simp only [List.mem_cons, List.not_mem_nil, or_false] at hu
            rcases hu with rfl | rfl | rfl | rfl <;> rfl
          case c3 => unfold maxLen; omega
          case c4 => omega
          case c5 => first | omega | (simp only [World.size_alloc]; omega)
          intro v' w9 hown' hgrow _ _
          obtain ⟨g', cap', rfl, hB', hlt'⟩ := hown'.form (by omega)
          have hL := O6.out.lt
          have bX : Below w.heap.size (w5.alloc (.cells #[.complex .f32 X1 Y, .complex .f32 U V, .float .f32 Q, .float .f32 M] 60)) w9 := (Below.refl w.heap.size _).grown hgrow (by simp only [World.size_alloc]; omega) (fun b e => (hL b e).1)
          have D9 := keep ((D6.out.alloc (.cells #[.complex .f32 X1 Y, .complex .f32 U V, .float .f32 Q, .float .f32 M] 60)).later bX lg)
          have G9 := keep (zgb_below (zgb_alloc G6.out (.cells #[.complex .f32 X1 Y, .complex .f32 U V, .float .f32 Q, .float .f32 M] 60)) bX (Nat.le_refl _))
          have OW := keep hown'
          clear hown' hgrow bX hL
          go_wp2_with fail
          go_roundw
          case rel => exact ⟨j - 1, ps ++ [⟨(X1, Y), (U, V), Q, M⟩], _, _, by rw [List.length_append]; show j - 1 + (ps.length + 1) = N; omega, by go_num, by rw [List.length_append]; rfl, keep (fun x hx => by
              rcases List.mem_append.1 hx with h1 | h1
              · exact hok.out x h1
              · rw [List.mem_singleton.1 h1]; exact HPO.out), keep (by
              have e := OW.out
              rw [p6row_append, List.length_append]
              exact e), keep (D9.out.mono (by rw [List.length_append]; show _ ≤ K + 20 * (ps.length + 1); omega)), G9⟩
          case measure => simp [intOf]; omega
    · obtain rfl : j = 0 := by omega
      have hN2 : ps.length = N := by omega
      have HN := keep hN2
      go_wp2_with fail
      go_ret
      exact ⟨ps, A, cp, hN2, hok.out, by rw [hN2]; rfl, by rw [← hN2]; exact ho.out, by rw [← hN2]; exact hd.out, hg.out⟩
end Go.Proofs.YtldnldgndjbhfaaDoor
