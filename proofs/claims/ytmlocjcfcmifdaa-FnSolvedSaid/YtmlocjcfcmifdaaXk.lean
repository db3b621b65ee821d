/- Contracts: drawn grids, drawn fields and complex numbers of integers; the gap of two numbers. No condition but that the bytes can be read. -/
import Derived.Test.YtmlocjcfcmifdaaXd
import Derived.Test.YtmlocjcfcmifdaaXf
import Derived.Deep.AppendLies
namespace Go.Proofs.Ytmlocjcfcmifdaa
open Go.RowKit Go.Sort Ieee
set_option linter.unusedSimpArgs false
set_option linter.unusedVariables false

theorem xaft {w w' : World} {a : Option Addr} {n : Nat} (h : Bytes w a n) (hb : Below w.heap.size w w') : Bytes w' a n :=
  h.later hb (fun b o e hn => by
    obtain ⟨b', o', e', hl, _⟩ := h 0 hn
    rw [e] at e'
    injection e' with e'
    injection e' with e'
    omega)

set_option maxHeartbeats 4000000 in
set_option maxRecDepth 20000 in
theorem xDrawGrid (g : Nat) (a : Option Addr) (n c K : Nat) (w : World) (h : Drawn w g a n c K) (hK : K ≤ 900000) :
    Calls Try.prog 45 #[.pointer (some ⟨g, 0, none⟩)] w fun e w' => ∃ W H : Nat, ((4 ≤ W ∧ W ≤ 7) ∧ (4 ≤ H ∧ H ≤ 6)) ∧ e = .returned (gV W H) ∧ Drawn w' g a n c (K + 2) ∧ w.grownBy w' (some g) := by
  have PK := keep (fun m K w h hK hm2 hm => pick_ok m g a n c K w h hK hm2 hm)
  have D0 := keep (h.alloc (.cells #[.int .i64 0, .int .i64 0] 36))
  have P0 := keep (Has.made w 36 #[.int .i64 0, .int .i64 0])
  have T0 := keep (zgb_alloc (World.grownBy.refl w (some g)) (.cells #[.int .i64 0, .int .i64 0] 36))
  have lg := h.lt
  have hgn : (some g : Option Nat) ≠ some w.heap.size := by intro e; injection e with e; omega
  clear h
  go_enter Try.func45, Try.ntmps45
  go_wp2_with fail
  refine (PK.out 4 K _ D0.out (by omega) (by omega) (by omega)).mono ?_
  rintro e w1 ⟨r1, h1, rfl, d1, g1⟩
  have P0 := keep ((zhas_byG P0.out g1 hgn))
  have T1 := keep (zgb_trans T0.out g1)
  have zz1 := T1.out.size
  have D1 := keep (d1.alloc (.cells #[.int .i64 (4 + (r1 : Int)), .int .i64 0] 36))
  have P4 := keep (Has.made w1 36 #[.int .i64 (4 + (r1 : Int)), .int .i64 0])
  have T1 := keep (zgb_alloc T1.out (.cells #[.int .i64 (4 + (r1 : Int)), .int .i64 0] 36))
  have zP := P0.out.in_heap
  have P0 := keep (P0.out.beside (.cells #[.int .i64 (4 + (r1 : Int)), .int .i64 0] 36))
  have hgn4 : (some g : Option Nat) ≠ some w1.heap.size := by intro e; injection e with e; omega
  clear d1 g1
  go_wp2_with fail
  refine (PK.out 3 (K + 1) _ D1.out (by omega) (by omega) (by omega)).mono ?_
  rintro e w2 ⟨r2, h2, rfl, d2, g2⟩
  have p0 := (zhas_byG P0.out g2 hgn)
  have p4 := (zhas_byG P4.out g2 hgn4)
  have T2 := keep (zgb_trans T1.out g2)
  have D2 := keep d2
  have c4 := p4.cells
  have u4 := p4.free
  have c0 := p0.cells
  have u0 := p0.free
  clear d2 g2
  go_wp2_with fail
  have q := ((p0.elsewhere (p := ⟨w1.heap.size, 1, none⟩) (by show w.heap.size ≠ w1.heap.size; omega) (.int .i64 (4 + (r2 : Int)))).written 0 (.int .i64 (4 + (r1 : Int)))).written 1 (.int .i64 (4 + (r2 : Int)))
  have qc := q.cells
  have bb := (((Below.refl w.heap.size w2).setCell (p := ⟨w1.heap.size, 1, none⟩) (by show w.heap.size ≤ w1.heap.size; omega) (.int .i64 (4 + (r2 : Int)))).setCell (p := ⟨w.heap.size, 0, none⟩) (Nat.le_refl _) (.int .i64 (4 + (r1 : Int)))).setCell (p := ⟨w.heap.size, 1, none⟩) (Nat.le_refl _) (.int .i64 (4 + (r2 : Int)))
  exact bodyPost_ret (v := .agg #[.int .i64 (4 + (r1 : Int)), .int .i64 (4 + (r2 : Int))]) (by simp [results, Try.results45, go_sem, qc]) rfl ⟨4 + r1, 4 + r2, ⟨⟨by omega, by omega⟩, by omega, by omega⟩, by unfold gV; rfl, D2.out.later bb lg, zgb_below T2.out bb (Nat.le_refl _)⟩

theorem Bytes.xalloc {w : World} {a : Option Addr} {n : Nat} (h : Bytes w a n) (o : Obj) : Bytes (w.alloc o) a n := h.later ((Below.refl w.heap.size w).alloc (Nat.le_refl _) o) (fun b o e hn => by
  obtain ⟨b', o', e', hl, _⟩ := h 0 hn
  rw [e] at e'
  injection e' with e'
  injection e' with e'
  omega)

set_option maxHeartbeats 4000000 in
theorem B10Grid_ok (a : Option Addr) (n c : Nat) (w : World) (hb : Bytes w a n) :
    Calls Try.prog 13 #[.slice a n c] w fun e w' => ∃ W H : Nat, ((4 ≤ W ∧ W ≤ 7) ∧ (4 ≤ H ∧ H ≤ 6)) ∧ e = .returned (gV W H) ∧ Below w.heap.size w w' := by
  have FR := keep (zFrom_ok a n c _ (hb.xalloc (.cells #[.int .i64 0, .int .i64 0] 36)))
  have DG := keep (fun w1 h => xDrawGrid (w.heap.size + 1) a n c 0 w1 h (by omega))
  have P := keep (Has.made w 36 #[.int .i64 0, .int .i64 0])
  clear hb
  go_enter Try.func13, Try.ntmps13
  go_wp2_with fail
  refine FR.out.mono ?_
  rintro e w1 ⟨rfl, hd, hb⟩
  rw [World.size_alloc] at hd
  have HD := keep hd
  have p1 := P.out.after hb
  have HB := keep (((Below.refl w.heap.size w).alloc (Nat.le_refl _) (.cells #[.int .i64 0, .int .i64 0] 36)).trans (hb.mono (by simp)))
  have P1 := keep p1
  clear hd hb p1
  go_wp2_with fail
  refine (DG.out _ HD.out).mono ?_
  rintro e w2 ⟨W, H, hs, rfl, hd, hg⟩
  have hB2 := HB.out.grown hg HB.out.size (fun g e => by injection e with e; omega)
  have p2 := (zhas_byG P1.out hg (by intro e; injection e with e; omega))
  have c2 := p2.cells
  have u2 := p2.free
  have HS := keep hs
  clear hd hg hs
  unfold gV
  go_wp2_with fail
  have q := (p2.written 0 (.int .i64 W)).written 1 (.int .i64 H)
  have qc := q.cells
  exact bodyPost_ret (v := .agg #[.int .i64 W, .int .i64 H]) (by simp [results, Try.results13, go_sem, qc]) rfl ⟨W, H, HS.out, rfl, (hB2.setCell (Nat.le_refl _) _).setCell (Nat.le_refl _) _⟩

/-- Words of integers. -/
def iw (n : Int) : Nat := wd single 0 n
def SmI (f : Nat → Int) (n : Nat) (M : Nat) : Prop := ∀ i, i < n → (f i).natAbs ≤ M
theorem ofInt_iw (n : Int) : floatOfInt .f32 n = iw n := rfl

set_option maxHeartbeats 4000000 in
set_option maxRecDepth 20000 in
theorem B10Field_ok (W H : Nat) (h : Sd W H) (a : Option Addr) (n c : Nat) (w : World) (hb : Bytes w a n) :
    Calls Try.prog 14 #[.slice a n c, gV W H, .int .i64 5] w fun e w' => ∃ (f : Nat → Int) (g k : Nat), SmI f (W * H) 5 ∧ e = .returned (.slice (some ⟨g, 0, none⟩) (W * H) k) ∧ w.heap.size ≤ g ∧ FW w' g (W * H) (fun i => iw (f i)) ∧ Below w.heap.size w w' := by
  have P0 := keep (Has.made w 36 #[.int .i64 W, .int .i64 H])
  have B0 := keep ((Below.refl w.heap.size w).alloc (Nat.le_refl _) (.cells #[.int .i64 W, .int .i64 H] 36))
  have FR := keep (zFrom_ok a n c _ (hb.xalloc (.cells #[.int .i64 W, .int .i64 H] 36)))
  have PK := keep (fun K w1 h hK => pick_ok 11 (w.heap.size + 1) a n c K w1 h hK (by omega) (by omega))
  have SL := sd_le W H h
  have hwm : IntKind.i64.wrap ((W : Int) * (H : Int)) = ((W * H : Nat) : Int) := by
    rw [← Int.natCast_mul]
    exact IntWalk.i64_in _ ⟨by omega, by omega⟩
  clear hb h
  go_enter Try.func14, Try.ntmps14
  unfold gV
  generalize W * H = N at *
  go_wp2_with fail
  refine FR.out.mono ?_
  rintro e w1 ⟨rfl, hd, hb⟩
  rw [World.size_alloc] at hd
  have D1 := keep (hd.alloc (.cells #[] 28))
  have p1 := (P0.out.after hb).beside (.cells #[] 28)
  have cg := p1.cells
  have B1 := keep ((B0.out.trans (hb.mono B0.out.size)).alloc (B0.out.trans (hb.mono B0.out.size)).size (.cells #[] 28))
  have R1 := keep (Has.made w1 28 #[])
  have z1 := hd.lt
  clear hd hb p1 P0 B0 FR
  go_wp2_with fail
  clear cg hwm
  go_loopw [9, 8] (fun t s wr => ∃ (j : Nat) (f : Nat → Int) (A : Option Addr) (cp : Nat), j ≤ N ∧ t = .int .i64 ((N - j : Nat) : Int) ∧ s = .slice A j cp ∧ Kept (SmI f j 5) ∧ Kept (wr.ownsRow (w.heap.size + 2) 28 1 (.slice A j cp) j (wList j (fun i => iw (f i)))) ∧ Kept (Drawn wr (w.heap.size + 1) a n c j) ∧ Kept (Below w.heap.size w wr)) (fun t _ _ => (intOf t).toNat)
  case atStart => exact ⟨0, fun _ => 0, _, _, by omega, rfl, rfl, keep (fun i hi => by omega), keep ⟨rfl, .inr ⟨w1.heap.size, 0, #[], rfl, by omega, R1.out, Nat.le_refl _, by simp [maxLen], rfl, rfl⟩⟩, D1, B1⟩
  case round =>
    clear D1 R1 B1
    obtain ⟨j, f, A, cp, hj, rfl, rfl, hok, ho, hd, hbr⟩ := hrel
    by_cases hlt : j < N
    · have hi : ((0 : Int) < ((N - j : Nat) : Int)) := by omega
      have hi2 : ((N - j : Nat) : Int) - 1 = ((N - (j + 1) : Nat) : Int) := by omega
      generalize ((N - j : Nat) : Int) = L at *
      go_wp2_with fail
      refine (PK.out _ _ hd.out (by omega)).mono ?_
      rintro e w3 ⟨r, hr, rfl, hd3, hg3⟩
      have D3 := keep hd3
      have O3 := keep (zown_byG ho.out hg3 (by omega))
      have B3 := keep (hbr.out.grown hg3 hbr.out.size (fun g e => by injection e with e; omega))
      have z3 := hd3.lt
      obtain ⟨i0, hi0, hz0, hz1, hz2⟩ := info_parts xinfoF32
      have HI := keep hi0
      have HZ0 := keep hz0
      have HZ1 := keep hz1
      have HZ2 := keep hz2
      have w8 : IntKind.i64.wrap ((r : Int) - 5) = (r : Int) - 5 := IntWalk.i64_in _ ⟨by omega, by omega⟩
      have wL : IntKind.i64.wrap (L - 1) = L - 1 := by rw [hi2]; exact IntWalk.i64_in _ ⟨by omega, by omega⟩
      clear hi0 hz0 hz1 hz2 hd3 hg3 hd ho hbr
      go_wp2_with (at_builtin; go_loud (refine wpList_append_own_at _ rfl _ _ 27 rfl (w.heap.size + 2) 28 i0 _ 1 4 Try.underlying27 HI.out HZ0.out HZ1.out HZ2.out rfl (by decide) (.slice A j cp) j _ rfl (O3.out.alloc _) ⟨w3.heap.size, 0, none⟩ 1 1 [.float .f32 (iw ((r : Int) - 5))] rfl rfl ?c1 ?c2 ?c3 ?c4 ?c5 ?_))
      case c1 =>
        intro i u hi
        rw [Addr.add_lit, Nat.zero_add]
        have e := (zhas_one w3 (.float .f32 (iw ((r : Int) - 5))) 28).cells i
        rw [← ofInt_iw] at e hi
        rw [e]
        simpa using hi
      case c2 =>
        intro u hu
        rw [List.mem_singleton.1 hu]; rfl
      case c3 => unfold maxLen; omega
      case c4 => omega
      case c5 => first | omega | (simp only [World.size_alloc]; omega)
      intro v' w5 hown' hgrow _ _
      obtain ⟨g', cap', rfl, hB', hlt'⟩ := hown'.form (by omega)
      have hL := O3.out.lt
      have bX : Below (w.heap.size + 2) _ w5 := (Below.refl (w.heap.size + 2) _).grown hgrow (by simp only [World.size_alloc]; omega) (fun b e => (hL b e).1)
      have D6 := keep ((D3.out.alloc _).later bX (by omega))
      have B6 := keep ((B3.out.alloc (by omega) _).trans (bX.mono (by omega)))
      have OW := keep hown'
      clear hown' hgrow bX hL w8
      go_wp2_with fail
      go_roundw
      case rel => exact ⟨j + 1, fun i => if i = j then (r : Int) - 5 else f i, _, _, by omega, by first | (rw [hi2]; done) | (simp only [hi2]) | rfl, rfl, keep (fun i hi => by
          dsimp only
          by_cases e : i = j
          · rw [if_pos e]; omega
          · rw [if_neg e]; exact hok.out i (by omega)), keep (by
          have e := OW.out
          rw [wList_snoc]
          have e1 : wList j (fun i => iw (if i = j then (r : Int) - 5 else f i)) = wList j (fun i => iw (f i)) := by
            unfold wList
            apply List.map_congr_left
            intro i hi
            dsimp only
            rw [if_neg (by have := List.mem_range.1 hi; omega)]
          dsimp only
          rw [e1, if_pos rfl]
          exact e), keep D6.out, B6⟩
      case measure => simp [intOf]; omega
    · obtain rfl : j = N := by omega
      obtain ⟨g', rfl⟩ : ∃ g, A = some ⟨g, 0, none⟩ := by
        rcases ho.out.2 with ⟨_, hn⟩ | ⟨g, cap, cur, e, _⟩
        · omega
        · injection e with e1; exact ⟨g, e1⟩
      have e0 : ((j - j : Nat) : Int) = 0 := by omega
      rw [e0]
      go_wp2_with fail
      go_ret
      have hg := (ho.out.lt g' rfl).1
      exact ⟨f, _, _, hok.out, rfl, by omega, own_fw ho.out, hbr.out⟩

/-- The gap of two numbers. -/
def GapD (a b G : Nat) : Prop := (double.order a b = some .lt ∧ floatBits .sub .f64 b a = some G) ∨ (¬ (double.order a b = some .lt) ∧ floatBits .sub .f64 a b = some G)
theorem b10Gap_ok (a b G : Nat) (h : GapD a b G) (w : World) : Calls Try.prog 12 #[.float .f64 a, .float .f64 b] w fun e w' => e = .returned (.float .f64 G) ∧ w' = w := by
  rcases h with ⟨h1, h2⟩ | ⟨h1, h2⟩
  · have f1 : FloatKind.f64.format.order a b = some .lt := h1
    have f2 := zrun h2
    clear h1 h2
    go_enter Try.func12, Try.ntmps12
    go_wp2_with fail
    go_ret
    exact ⟨rfl, rfl⟩
  · have f1 : ¬ (FloatKind.f64.format.order a b = some .lt) := h1
    have f3 : (FloatKind.f64.format.order a b == some .lt) = false := by rw [beq_eq_false_iff_ne]; exact h1
    have f2 := zrun h2
    clear h1 h2
    go_enter Try.func12, Try.ntmps12
    go_wp2_with fail
    go_ret
    exact ⟨rfl, rfl⟩
end Go.Proofs.Ytmlocjcfcmifdaa
