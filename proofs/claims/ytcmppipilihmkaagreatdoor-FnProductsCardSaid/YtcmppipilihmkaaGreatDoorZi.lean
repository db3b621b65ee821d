/- Contracts: drawn complex numbers, of any 32 bits or of whole parts. No condition but that the bytes can be read. Printed by mkZi.py. -/
import Derived.Test.YtcmppipilihmkaaGreatDoorZe
import Derived.Test.YtcmppipilihmkaaGreatDoorFy
namespace Go.Proofs.YtcmppipilihmkaaGreatDoor
open Go.RowKit Go.Sort Ieee
set_option linter.unusedSimpArgs false

/-- What is handed back: a pair of words; the source has moved on by no more than j bytes. -/
def PairOut (g : Nat) (a : Option Addr) (n c K j : Nat) (w : World) (e : Ending) (w' : World) : Prop := ∃ p : Nat × Nat, P32 p ∧ e = .returned (.complex .f32 p.1 p.2) ∧ Drawn w' g a n c (K + j) ∧ w.grownBy w' (some g)

set_option maxHeartbeats 1000000 in
theorem l01DrawComplex_ok (g : Nat) (a : Option Addr) (n c K : Nat) (w : World) (h : Drawn w g a n c K) (hK : K ≤ 700000) :
    Calls Tryz.prog 57 #[.pointer (some ⟨g, 0, none⟩)] w (PairOut g a n c K 12 w) := by
  have DF := keep (fun K w h hK => l01DrawFloat_ok g a n c K w h hK)
  have H0 := keep h
  clear h
  go_enter Tryz.func57, Tryz.ntmps57
  go_wp2_with fail
  refine (DF.out _ _ H0.out (by omega)).mono ?_
  rintro e w1 ⟨x, hx, rfl, hd, hg⟩
  have HD := keep hd
  have HG := keep hg
  clear hd hg
  go_wp2_with fail
  refine (DF.out _ _ HD.out (by omega)).mono ?_
  rintro e w2 ⟨y, hy, rfl, hd, hg⟩
  have HD2 := keep hd
  have HG2 := keep (zgb_trans HG.out hg)
  clear hd hg
  go_wp2_with fail
  go_ret
  exact ⟨(x, y), ⟨hx, hy⟩, rfl, HD2.out, HG2.out⟩
set_option maxHeartbeats 1000000 in
theorem l01DrawFine_ok (g : Nat) (a : Option Addr) (n c K : Nat) (w : World) (h : Drawn w g a n c K) (hK : K ≤ 700000) :
    Calls Tryz.prog 58 #[.pointer (some ⟨g, 0, none⟩)] w (PairOut g a n c K 2 w) := by
  have P := keep (fun K w h hK => pick_ok 65 g a n c K w h hK (by omega) (by omega))
  have H0 := keep h
  clear h
  go_enter Tryz.func58, Tryz.ntmps58
  go_wp2_with fail
  refine (P.out _ _ H0.out (by omega)).mono ?_
  rintro e w1 ⟨r, hr, rfl, hd, hg⟩
  have HD := keep hd
  have HG := keep hg
  have wr : IntKind.i64.wrap ((r : Int) - 32) = (r : Int) - 32 := IntWalk.i64_in _ ⟨by omega, by omega⟩
  obtain ⟨x, hx, lx⟩ := div16_some ((r : Int) - 32) (by omega) (by omega)
  have fx := zrun hx
  clear hd hg hx
  go_wp2_with fail
  refine (P.out _ _ HD.out (by omega)).mono ?_
  rintro e w2 ⟨r2, hr2, rfl, hd, hg⟩
  have HD2 := keep hd
  have HG2 := keep (zgb_trans HG.out hg)
  have wr2 : IntKind.i64.wrap ((r2 : Int) - 32) = (r2 : Int) - 32 := IntWalk.i64_in _ ⟨by omega, by omega⟩
  obtain ⟨y, hy, ly⟩ := div16_some ((r2 : Int) - 32) (by omega) (by omega)
  have fy := zrun hy
  clear hd hg hy
  go_wp2_with fail
  go_ret
  exact ⟨(x, y), ⟨lx, ly⟩, rfl, HD2.out, HG2.out⟩

/-- A row of pairs, from a base on. -/
def Prs (w : World) (B : Nat) (v : Value) (xs : List (Nat × Nat)) : Prop := w.ownsRow B 24 1 v xs.length (xs.map cv)

set_option maxHeartbeats 4000000 in
set_option maxRecDepth 20000 in
theorem l01DrawComplexes_ok (g : Nat) (a : Option Addr) (n c K N : Nat) (w : World) (h : Drawn w g a n c K) (hK : K ≤ 100) (hN : N ≤ 100) :
    Calls Tryz.prog 45 #[.pointer (some ⟨g, 0, none⟩), .int .i64 N] w fun e w' => ∃ (xs : List (Nat × Nat)) (A : Option Addr) (cp : Nat), xs.length = N ∧ (∀ x ∈ xs, P32 x) ∧ e = .returned (.slice A N cp) ∧ Prs w' w.heap.size (.slice A N cp) xs ∧ w.grownBy w' (some g) := by
  have ON := keep (fun w h => one_any 5 g a n c K w h (by omega) (by omega) (by omega))
  have DP := keep (fun K w h hK => l01DrawFine_ok g a n c K w h hK)
  have DF := keep (fun K w h hK => l01DrawComplex_ok g a n c K w h hK)
  have lg := h.lt
  have D1 := keep (h.alloc (.cells #[] 24))
  have G1 := keep (zgb_alloc (World.grownBy.refl w (some g)) (.cells #[] 24))
  have R1 := keep (Has.made w 24 #[])
  clear h
  go_enter Tryz.func45, Tryz.ntmps45
  go_wp2_with fail
  refine (ON.out _ D1.out).mono ?_
  rintro e w1 ⟨bb, rfl, hd, hg⟩
  have D2 := keep hd
  have G2 := keep (zgb_trans G1.out hg)
  have R2 := keep (zhas_byG R1.out hg (by intro e; injection e with e; omega))
  clear hd hg D1 G1 R1
  go_wp2_with fail
  go_loopw [1, 5] (fun t s wr => ∃ (j : Nat) (xs : List (Nat × Nat)) (A : Option Addr) (cp : Nat), j + xs.length = N ∧ t = .int .i64 j ∧ s = .slice A xs.length cp ∧ Kept (∀ x ∈ xs, P32 x) ∧ Kept (wr.ownsRow w.heap.size 24 1 (.slice A xs.length cp) xs.length (xs.map cv)) ∧ Kept (Drawn wr g a n c (K + 1 + 12 * xs.length)) ∧ Kept (w.grownBy wr (some g))) (fun t _ _ => (intOf t).toNat)
  case atStart => exact ⟨N, [], _, _, rfl, rfl, rfl, keep (fun p h => by cases h), keep ⟨rfl, .inr ⟨w.heap.size, 0, #[], rfl, Nat.le_refl _, R2.out, Nat.le_refl _, by simp [maxLen], rfl, rfl⟩⟩, D2, G2⟩
  case round =>
    clear D2 R2 G2
    obtain ⟨j, xs, A, cp, hj, rfl, rfl, hok, ho, hd, hg⟩ := hrel
    by_cases hlt : 0 < j
    · have hi : ((0 : Int) < (j : Int)) := by omega
      obtain ⟨i0, hi0, hz0, hz1, hz2⟩ := info_parts infoC64
      have HI := keep hi0
      have HZ0 := keep hz0
      have HZ1 := keep hz1
      have HZ2 := keep hz2
      have wj : IntKind.i64.wrap ((j : Int) - 1) = ((j - 1 : Nat) : Int) := by rw [IntWalk.i64_in _ ⟨by omega, by omega⟩]; omega
      clear hi0 hz0 hz1 hz2
      cases bb
      all_goals
        go_wp2_with fail
        refine Calls.mono (by first | exact DP.out _ _ hd.out (by omega) | exact DF.out _ _ hd.out (by omega)) ?_
        rintro e w3 ⟨r, hr, rfl, hd3, hg3⟩
        have D3 := keep (hd3.mono (K' := K + 1 + 12 * xs.length + 12) (by omega))
        have O3 := keep (zown_byG ho.out hg3 lg)
        have G3 := keep (zgb_trans hg.out hg3)
        have z3 := G3.out.size
        clear hd3 hg3 hd ho hg
        go_wp2_with (at_builtin; go_loud (refine wpList_append_own_at _ rfl _ _ 25 rfl w.heap.size 24 i0 _ 1 8 Tryz.underlying25 HI.out HZ0.out HZ1.out HZ2.out rfl (by decide) (.slice A xs.length cp) xs.length _ rfl (O3.out.alloc _) ⟨w3.heap.size, 0, none⟩ 1 1 [.complex .f32 r.1 r.2] rfl rfl ?c1 ?c2 ?c3 ?c4 ?c5 ?_))
        case c1 =>
          intro i u hi
          rw [Addr.add_lit, Nat.zero_add]
          have e := (zhas_one w3 (.complex .f32 r.1 r.2) 24).cells i
          rw [e]
          simpa using hi
        case c2 =>
          intro u hu
          rw [List.mem_singleton.1 hu]; rfl
        case c3 => unfold maxLen; omega
        case c4 => omega
        case c5 => first | omega | (simp only [World.size_alloc]; omega)
        intro v' w5 hown' hgrow _ _
        obtain ⟨g', cap', rfl, hB', hlt'⟩ := hown'.form (by omega)
        have hL := O3.out.lt
        have bX : Below w.heap.size (w3.alloc (.cells #[.complex .f32 r.1 r.2] 24)) w5 := (Below.refl w.heap.size _).grown hgrow (by simp only [World.size_alloc]; omega) (fun b e => (hL b e).1)
        have D6 := keep ((D3.out.alloc (.cells #[.complex .f32 r.1 r.2] 24)).later bX lg)
        have G6 := keep (zgb_below (zgb_alloc G3.out (.cells #[.complex .f32 r.1 r.2] 24)) bX (Nat.le_refl _))
        have OW := keep hown'
        clear hown' hgrow bX hL
        go_wp2_with fail
        go_roundw
        case rel => exact ⟨j - 1, xs ++ [r], _, _, by rw [List.length_append]; show j - 1 + (xs.length + 1) = N; omega, by go_num, by rw [List.length_append]; rfl, keep (fun x hx => by
            rcases List.mem_append.1 hx with h1 | h1
            · exact hok.out x h1
            · rw [List.mem_singleton.1 h1]; exact hr), keep (by
            have e := OW.out
            rw [List.map_append, List.length_append]
            exact e), keep (D6.out.mono (by rw [List.length_append]; show _ ≤ K + 1 + 12 * (xs.length + 1); omega)), G6⟩
        case measure => simp [intOf]; omega
    · obtain rfl : j = 0 := by omega
      have hN2 : xs.length = N := by omega
      have HN := keep hN2
      go_wp2_with fail
      go_ret
      exact ⟨xs, A, cp, hN2, hok.out, by rw [hN2]; rfl, by rw [← hN2]; exact ho.out, hg.out⟩

set_option maxHeartbeats 1000000 in
theorem B10Any_ok (a : Option Addr) (n c N : Nat) (w : World) (hb : Bytes w a n) (hN : N ≤ 100) :
    Calls Tryz.prog 15 #[.slice a n c, .int .i64 N] w fun e w' => ∃ (xs : List (Nat × Nat)) (A : Option Addr) (cp : Nat), xs.length = N ∧ (∀ x ∈ xs, P32 x) ∧ e = .returned (.slice A N cp) ∧ Prs w' w.heap.size (.slice A N cp) xs ∧ Below w.heap.size w w' := by
  have FR := keep (zFrom_ok a n c w hb)
  have DF := keep (fun w1 h => l01DrawComplexes_ok w.heap.size a n c 0 N w1 h (by omega) hN)
  clear hb
  go_enter Tryz.func15, Tryz.ntmps15
  go_wp2_with fail
  refine FR.out.mono ?_
  rintro e w1 ⟨rfl, hd, hb⟩
  have D1 := keep hd
  have B1 := keep hb
  clear hd hb
  go_wp2_with fail
  refine (DF.out _ D1.out).mono ?_
  rintro e w2 ⟨xs, A, cp, hl, hx, rfl, ho, hg⟩
  have B2 := keep (B1.out.grown hg B1.out.size (fun g e => by injection e with e; omega))
  have HO := keep (show Prs w2 w.heap.size (.slice A N cp) xs from own_base ho B1.out.size)
  clear hg ho
  go_wp2_with fail
  go_ret
  exact ⟨xs, A, cp, hl, hx, rfl, HO.out, B2.out⟩

set_option maxHeartbeats 1000000 in
theorem B10Complex_ok (a : Option Addr) (n c : Nat) (w : World) (hb : Bytes w a n) :
    Calls Tryz.prog 22 #[.slice a n c] w fun e w' => ∃ p : Nat × Nat, P32 p ∧ e = .returned (.complex .f32 p.1 p.2) ∧ Below w.heap.size w w' := by
  have FR := keep (zFrom_ok a n c w hb)
  have O := keep (fun w1 h => one_any 4 w.heap.size a n c 0 w1 h (by omega) (by omega) (by omega))
  have DC := keep (fun K w1 h hK => l01DrawComplex_ok w.heap.size a n c K w1 h hK)
  have DF := keep (fun K w1 h hK => l01DrawFine_ok w.heap.size a n c K w1 h hK)
  clear hb
  go_enter Tryz.func22, Tryz.ntmps22
  go_wp2_with fail
  refine FR.out.mono ?_
  rintro e w1 ⟨rfl, hd, hb⟩
  have D1 := keep hd
  have B1 := keep hb
  clear hd hb
  go_wp2_with fail
  refine (O.out _ D1.out).mono ?_
  rintro e w2 ⟨b, rfl, hd, hg⟩
  have D2 := keep hd
  have B2 := keep (B1.out.grown hg B1.out.size (fun g e => by injection e with e; omega))
  clear hd hg
  cases b
  · go_wp2_with fail
    refine (DF.out _ _ D2.out (by omega)).mono ?_
    rintro e w3 ⟨p, hp, rfl, hd, hg⟩
    have B3 := keep (B2.out.grown hg B2.out.size (fun g e => by injection e with e; omega))
    clear hd hg
    go_wp2_with fail
    go_ret
    exact ⟨p, hp, rfl, B3.out⟩
  · go_wp2_with fail
    refine (DC.out _ _ D2.out (by omega)).mono ?_
    rintro e w3 ⟨p, hp, rfl, hd, hg⟩
    have B3 := keep (B2.out.grown hg B2.out.size (fun g e => by injection e with e; omega))
    clear hd hg
    go_wp2_with fail
    go_ret
    exact ⟨p, hp, rfl, B3.out⟩

theorem zofInt (n : Int) : floatOfInt .f32 n = wd single 0 n := rfl
/-- One complex number of whole parts, in a row of its own. -/
def WholeOut (w : World) (e : Ending) (w' : World) : Prop := ∃ (x y : Int) (b k : Nat), x.natAbs ≤ 200 ∧ y.natAbs ≤ 200 ∧ e = .returned (.slice (some ⟨b, 0, none⟩) 1 k) ∧ b < w'.heap.size ∧ w'.cell? ⟨b, 0, none⟩ = some (.complex .f32 (wd single 0 x) (wd single 0 y)) ∧ Below w.heap.size w w'
theorem B10Whole_ok (a : Option Addr) (n c : Nat) (w : World) (hb : Bytes w a n) :
    Calls Tryz.prog 6 #[.slice a n c, .int .i64 1, .int .i64 200] w (WholeOut w) := by
  have FR := keep (zFrom_ok a n c w hb)
  have PB := keep (fun K w1 h hK => pick_big 401 w.heap.size a n c K w1 h hK (by omega) (by omega))
  clear hb
  go_enter Tryz.func6, Tryz.ntmps6
  go_wp2_with fail
  refine FR.out.mono ?_
  rintro e w1 ⟨rfl, hd, hb⟩
  have D1 := keep (hd.alloc (.cells #[] 24))
  have B1 := keep (hb.alloc hb.size (.cells #[] 24))
  have R1 := keep (Has.made w1 24 #[])
  have z1 := hd.lt
  clear hd hb
  go_wp2_with fail
  go_loopw [1, 8] (fun t s wr => ∃ (j : Nat) (xs : List (Int × Int)) (A : Option Addr) (cp : Nat), j + xs.length = 1 ∧ t = .int .i64 j ∧ s = .slice A xs.length cp ∧ Kept (∀ p ∈ xs, p.1.natAbs ≤ 200 ∧ p.2.natAbs ≤ 200) ∧ Kept (wr.ownsRow (w.heap.size + 1) 24 1 (.slice A xs.length cp) xs.length (xs.map fun p => .complex .f32 (wd single 0 p.1) (wd single 0 p.2))) ∧ Kept (Drawn wr w.heap.size a n c (4 * xs.length)) ∧ Kept (Below w.heap.size w wr)) (fun t _ _ => (intOf t).toNat)
  case atStart => exact ⟨1, [], _, _, rfl, rfl, rfl, keep (fun p h => by cases h), keep ⟨rfl, .inr ⟨w1.heap.size, 0, #[], rfl, by omega, R1.out, Nat.le_refl _, by simp [maxLen], rfl, rfl⟩⟩, D1, B1⟩
  case round =>
    clear D1 R1 B1
    obtain ⟨j, xs, A, cp, hj, rfl, rfl, hok, ho, hd, hbr⟩ := hrel
    by_cases hlt : 0 < j
    · have hi : ((0 : Int) < (j : Int)) := by omega
      obtain ⟨i0, hi0, hz0, hz1, hz2⟩ := info_parts infoC64
      have HI := keep hi0
      have HZ0 := keep hz0
      have HZ1 := keep hz1
      have HZ2 := keep hz2
      have wj : IntKind.i64.wrap ((j : Int) - 1) = ((j - 1 : Nat) : Int) := by rw [IntWalk.i64_in _ ⟨by omega, by omega⟩]; omega
      clear hi0 hz0 hz1 hz2
      go_wp2_with fail
      refine (PB.out _ _ hd.out (by omega)).mono ?_
      rintro e w3 ⟨r, hr, rfl, hd3, hg3⟩
      have D3 := keep hd3
      have O3 := keep (zown_byG ho.out hg3 (by omega))
      have B3 := keep (hbr.out.grown hg3 hbr.out.size (fun g e => by injection e with e; omega))
      have w8 : IntKind.i64.wrap ((r : Int) - 200) = (r : Int) - 200 := IntWalk.i64_in _ ⟨by omega, by omega⟩
      clear hd3 hg3 hd ho hbr
      go_wp2_with fail
      refine (PB.out _ _ D3.out (by omega)).mono ?_
      rintro e w4 ⟨r2, hr2, rfl, hd4, hg4⟩
      have D4 := keep hd4
      have O4 := keep (zown_byG O3.out hg4 (by omega))
      have B4 := keep (B3.out.grown hg4 B3.out.size (fun g e => by injection e with e; omega))
      have z4 := B4.out.size
      have l4 := hd4.lt
      have w9 : IntKind.i64.wrap ((r2 : Int) - 200) = (r2 : Int) - 200 := IntWalk.i64_in _ ⟨by omega, by omega⟩
      have e1 := zofInt ((r : Int) - 200)
      have e2 := zofInt ((r2 : Int) - 200)
      clear hd4 hg4 D3 O3 B3
      go_wp2_with (at_builtin; go_loud (refine wpList_append_own_at _ rfl _ _ 25 rfl (w.heap.size + 1) 24 i0 _ 1 8 Tryz.underlying25 HI.out HZ0.out HZ1.out HZ2.out rfl (by decide) (.slice A xs.length cp) xs.length _ rfl (O4.out.alloc _) ⟨w4.heap.size, 0, none⟩ 1 1 [.complex .f32 (wd single 0 ((r : Int) - 200)) (wd single 0 ((r2 : Int) - 200))] rfl rfl ?c1 ?c2 ?c3 ?c4 ?c5 ?_))
      case c1 =>
        intro i u hi
        rw [Addr.add_lit, Nat.zero_add]
        have e := (zhas_one w4 (.complex .f32 (wd single 0 ((r : Int) - 200)) (wd single 0 ((r2 : Int) - 200))) 24).cells i
        rw [e]
        simpa using hi
      case c2 =>
        intro u hu
        rw [List.mem_singleton.1 hu]; rfl
      case c3 => unfold maxLen; omega
      case c4 => omega
      case c5 => first | omega | (simp only [World.size_alloc]; omega)
      intro v' w5 hown' hgrow _ _
      obtain ⟨g', cap', rfl, hB', hlt'⟩ := hown'.form (by omega)
      have hL := O4.out.lt
      have bX : Below (w.heap.size + 1) _ w5 := (Below.refl (w.heap.size + 1) _).grown hgrow (by simp only [World.size_alloc]; omega) (fun b e => (hL b e).1)
      have D6 := keep ((D4.out.alloc _).later bX (by omega))
      have B6 := keep ((B4.out.alloc (by omega) _).trans (bX.mono (by omega)))
      have OW := keep hown'
      clear hown' hgrow bX hL
      go_wp2_with fail
      go_roundw
      case rel => exact ⟨j - 1, xs ++ [((r : Int) - 200, (r2 : Int) - 200)], _, _, by rw [List.length_append]; show j - 1 + (xs.length + 1) = 1; omega, by go_num, by rw [List.length_append]; rfl, keep (fun p hp => by
          rcases List.mem_append.1 hp with h1 | h1
          · exact hok.out p h1
          · rw [List.mem_singleton.1 h1]; show ((r : Int) - 200).natAbs ≤ 200 ∧ ((r2 : Int) - 200).natAbs ≤ 200; omega), keep (by
          have e := OW.out
          rw [List.map_append, List.length_append]
          exact e), keep (D6.out.mono (by rw [List.length_append]; show _ ≤ 4 * (xs.length + 1); omega)), B6⟩
      case measure => simp [intOf]; omega
    · obtain rfl : j = 0 := by omega
      obtain ⟨p, rfl⟩ : ∃ p, xs = [p] := by
        cases xs with
        | nil => simp at hj
        | cons p r =>
          cases r with
          | nil => exact ⟨p, rfl⟩
          | cons q r => exfalso; simp only [List.length_cons] at hj; omega
      obtain ⟨x, y⟩ := p
      have hp := hok.out (x, y) List.mem_cons_self
      obtain ⟨g, c2, e, _, _⟩ := ho.out.form (by simp)
      injection e with e1 e2 e3
      subst e1
      have hc := ho.out.cells (g := g) rfl 0 (.complex .f32 (wd single 0 x) (wd single 0 y)) rfl
      rw [Addr.add_lit, Nat.zero_add] at hc
      have hlg := World.block_lt_of_cell? wr _ hc
      have HC := keep hc
      have HB := keep hbr.out
      clear hc ho hd hok
      go_wp2_with fail
      go_ret
      exact ⟨x, y, g, _, hp.1, hp.2, rfl, hlg, HC.out, HB.out⟩
end Go.Proofs.YtcmppipilihmkaaGreatDoor
