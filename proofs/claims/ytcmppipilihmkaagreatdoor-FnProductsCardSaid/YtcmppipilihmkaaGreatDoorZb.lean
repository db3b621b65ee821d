/- Contracts: drawn numbers, of any 32 bits. No condition but that the bytes can be read. -/
import Derived.Test.YtcmppipilihmkaaGreatDoorZa
import Derived.Test.YtcmppipilihmkaaGreatDoorUi
namespace Go.Proofs.YtcmppipilihmkaaGreatDoor
open Go.RowKit Go.Sort Ieee
set_option linter.unusedSimpArgs false

theorem div7_all : ∀ n : Fin 129, (floatBits .quo .f32 (floatOfInt .f32 ((n.val : Int) - 64)) 1088421888).isSome = true := by decide +kernel
theorem div7_some (x : Int) (h0 : -64 ≤ x) (h1 : x ≤ 64) : ∃ r, floatBits .quo .f32 (floatOfInt .f32 x) 1088421888 = some r ∧ r < 4294967296 := by
  have h := div7_all ⟨(x + 64).toNat, by omega⟩
  rw [show (((x + 64).toNat : Nat) : Int) - 64 = x by omega] at h
  obtain ⟨r, hr⟩ := Option.isSome_iff_exists.1 h
  exact ⟨r, hr, floatBits_lt rfl hr⟩
theorem div16_all : ∀ n : Fin 129, (floatBits .quo .f32 (floatOfInt .f32 ((n.val : Int) - 64)) 1098907648).isSome = true := by decide +kernel
theorem div16_some (x : Int) (h0 : -64 ≤ x) (h1 : x ≤ 64) : ∃ r, floatBits .quo .f32 (floatOfInt .f32 x) 1098907648 = some r ∧ r < 4294967296 := by
  have h := div16_all ⟨(x + 64).toNat, by omega⟩
  rw [show (((x + 64).toNat : Nat) : Int) - 64 = x by omega] at h
  obtain ⟨r, hr⟩ := Option.isSome_iff_exists.1 h
  exact ⟨r, hr, floatBits_lt rfl hr⟩

/-- What is handed back: a word of 32 bits; the source has moved on by no more than j bytes. -/
def WordOut (g : Nat) (a : Option Addr) (n c K j : Nat) (w : World) (e : Ending) (w' : World) : Prop := ∃ r : Nat, r < 4294967296 ∧ e = .returned (.float .f32 r) ∧ Drawn w' g a n c (K + j) ∧ w.grownBy w' (some g)

set_option maxHeartbeats 1000000 in
theorem l01DrawPlain_ok (g : Nat) (a : Option Addr) (n c K : Nat) (w : World) (h : Drawn w g a n c K) (hK : K ≤ 900000) :
    Calls Tryz.prog 83 #[.pointer (some ⟨g, 0, none⟩)] w (WordOut g a n c K 2 w) := by
  have P := keep (pick_ok 129 g a n c K w h (by omega) (by omega) (by omega))
  have O := keep (fun w h => one_any 4 g a n c (K + 1) w h (by omega) (by omega) (by omega))
  clear h
  go_enter Tryz.func83, Tryz.ntmps83
  go_wp2_with fail
  refine P.out.mono ?_
  rintro e w1 ⟨r, hr, rfl, hd, hg⟩
  have HD := keep hd
  have HG := keep hg
  have wr : IntKind.i64.wrap ((r : Int) - 64) = (r : Int) - 64 := IntWalk.i64_in _ ⟨by omega, by omega⟩
  obtain ⟨x, hx, lx⟩ := div7_some ((r : Int) - 64) (by omega) (by omega)
  obtain ⟨y, hy, ly⟩ := div16_some ((r : Int) - 64) (by omega) (by omega)
  have fx := zrun hx
  have fy := zrun hy
  clear hd hg hx hy
  go_wp2_with fail
  refine (O.out _ HD.out).mono ?_
  rintro e w2 ⟨b, rfl, hd, hg⟩
  have HD2 := keep hd
  have HG2 := keep (zgb_trans HG.out hg)
  clear hd hg
  cases b
  · go_wp2_with fail
    go_ret
    exact ⟨y, ly, rfl, HD2.out, HG2.out⟩
  · go_wp2_with fail
    go_ret
    exact ⟨x, lx, rfl, HD2.out, HG2.out⟩

theorem Src8 {w : World} {g : Nat} {a : Option Addr} {n c K : Nat} (h : Drawn w g a n c K) (o : Obj) : Drawn (w.alloc o) g a n c K := h.alloc o

set_option maxHeartbeats 4000000 in
set_option maxRecDepth 20000 in
theorem l01DrawFloat_ok (g : Nat) (a : Option Addr) (n c K : Nat) (w : World) (h : Drawn w g a n c K) (hK : K ≤ 800000) :
    Calls Tryz.prog 53 #[.pointer (some ⟨g, 0, none⟩)] w (WordOut g a n c K 6 w) := by
  have O := keep (one_any 12 g a n c K w h (by omega) (by omega) (by omega))
  have P := keep (fun w h => pick_ok 4 g a n c (K + 1) w h (by omega) (by omega) (by omega))
  have PL := keep (fun K w h hK => l01DrawPlain_ok g a n c K w h hK)
  have PB := keep (fun K w h hK => pick_big 65536 g a n c K w h hK (by omega) (by omega))
  have AM := keep (fun b k cp K w h hK hk2 hk hb hc => among_ok g b k cp a n c K w h hK hk2 hk hb hc)
  have FR := keep (fun v w hv => l01From_b v w hv)
  have lg := h.lt
  clear h
  go_enter Tryz.func53, Tryz.ntmps53
  go_wp2_with fail
  refine O.out.mono ?_
  rintro e w1 ⟨b, rfl, hd, hg⟩
  have HD := keep hd
  have HG := keep hg
  have lg1 := hd.lt
  clear hd hg
  cases b
  · go_wp2_with fail
    refine (PL.out _ _ HD.out (by omega)).mono ?_
    rintro e w2 ⟨r, hr, rfl, hd, hg⟩
    have HD2 := keep (hd.mono (K' := K + 6) (by omega))
    have HG2 := keep (zgb_trans HG.out hg)
    clear hd hg
    go_wp2_with fail
    go_ret
    exact ⟨r, hr, rfl, HD2.out, HG2.out⟩
  · go_wp2_with fail
    refine (P.out _ HD.out).mono ?_
    rintro e w2 ⟨k, hk, rfl, hd, hg⟩
    have HD2 := keep hd
    have HG2 := keep (zgb_trans HG.out hg)
    have lg2 := hd.lt
    clear hd hg
    obtain rfl | rfl | rfl | rfl : k = 0 ∨ k = 1 ∨ k = 2 ∨ k = 3 := by omega
    · go_wp2_with fail
      refine (AM.out w2.heap.size 10 _ (K + 1 + 1) _ (HD2.out.alloc _) (by omega) (by omega) (by omega) (by omega) ?_).mono ?_
      · intro i hi
        rw [(Has.made w2 _ _).cells i]
        obtain rfl | rfl | rfl | rfl | rfl | rfl | rfl | rfl | rfl | rfl : i = 0 ∨ i = 1 ∨ i = 2 ∨ i = 3 ∨ i = 4 ∨ i = 5 ∨ i = 6 ∨ i = 7 ∨ i = 8 ∨ i = 9 := by omega
        · exact ⟨0, by omega, rfl⟩
        · exact ⟨2147483648, by omega, rfl⟩
        · exact ⟨2139095040, by omega, rfl⟩
        · exact ⟨4286578688, by omega, rfl⟩
        · exact ⟨2143289344, by omega, rfl⟩
        · exact ⟨1, by omega, rfl⟩
        · exact ⟨2139095039, by omega, rfl⟩
        · exact ⟨8388608, by omega, rfl⟩
        · exact ⟨8388607, by omega, rfl⟩
        · exact ⟨2147483649, by omega, rfl⟩
      rintro e w3 ⟨v, hv, rfl, hd, hg⟩
      have HD3 := keep (hd.mono (K' := K + 6) (by omega))
      have HG3 := keep (zgb_trans (zgb_alloc HG2.out _) hg)
      clear hd hg
      go_wp2_with fail
      refine (FR.out v _ hv).mono ?_
      rintro e w4 ⟨rfl, hw⟩
      have hw := hw.symm
      subst hw
      go_wp2_with fail
      go_ret
      exact ⟨v, hv, rfl, HD3.out, HG3.out⟩
    · go_wp2_with fail
      refine (PB.out _ _ HD2.out (by omega)).mono ?_
      rintro e w3 ⟨u, hu, rfl, hd, hg⟩
      have HD3 := keep hd
      have HG3 := keep (zgb_trans HG2.out hg)
      have wu : IntKind.i64.wrap ((u : Int) * 65536) = (u : Int) * 65536 := IntWalk.i64_in _ ⟨by omega, by omega⟩
      clear hd hg
      go_wp2_with fail
      refine (PB.out _ _ HD3.out (by omega)).mono ?_
      rintro e w4 ⟨v, hv, rfl, hd, hg⟩
      have HD4 := keep (hd.mono (K' := K + 6) (by omega))
      have HG4 := keep (zgb_trans HG3.out hg)
      have wv : IntKind.i64.wrap ((u : Int) * 65536 + (v : Int)) = ((u * 65536 + v : Nat) : Int) := by
        rw [IntWalk.i64_in _ ⟨by omega, by omega⟩]; omega
      clear hd hg
      go_wp2_with fail
      refine (FR.out (u * 65536 + v) _ (by omega)).mono ?_
      rintro e w5 ⟨rfl, hw⟩
      have hw := hw.symm
      subst hw
      go_wp2_with fail
      go_ret
      exact ⟨u * 65536 + v, by omega, rfl, HD4.out, HG4.out⟩
    · go_wp2_with fail
      refine (PB.out _ _ HD2.out (by omega)).mono ?_
      rintro e w3 ⟨u, hu, rfl, hd, hg⟩
      have HD3 := keep (hd.mono (K' := K + 6) (by omega))
      have HG3 := keep (zgb_trans HG2.out hg)
      have wu : IntKind.i64.wrap ((u : Int) * 65536) = ((u * 65536 : Nat) : Int) := by
        rw [IntWalk.i64_in _ ⟨by omega, by omega⟩]; omega
      clear hd hg
      go_wp2_with fail
      refine (FR.out (u * 65536) _ (by omega)).mono ?_
      rintro e w5 ⟨rfl, hw⟩
      have hw := hw.symm
      subst hw
      go_wp2_with fail
      go_ret
      exact ⟨u * 65536, by omega, rfl, HD3.out, HG3.out⟩
    · go_wp2_with fail
      refine (PL.out _ _ HD2.out (by omega)).mono ?_
      rintro e w3 ⟨r, hr, rfl, hd, hg⟩
      have HD3 := keep hd
      have HG3 := keep (zgb_trans HG2.out hg)
      have lg3 := hd.lt
      clear hd hg
      go_wp2_with fail
      refine (AM.out w3.heap.size 4 _ (K + 1 + 1 + 2) _ (HD3.out.alloc _) (by omega) (by omega) (by omega) (by omega) ?_).mono ?_
      · intro i hi
        rw [(Has.made w3 _ _).cells i]
        obtain rfl | rfl | rfl | rfl : i = 0 ∨ i = 1 ∨ i = 2 ∨ i = 3 := by omega
        · exact ⟨8388608, by omega, rfl⟩
        · exact ⟨2130706432, by omega, rfl⟩
        · exact ⟨1610612736, by omega, rfl⟩
        · exact ⟨536870912, by omega, rfl⟩
      rintro e w4 ⟨v, hv, rfl, hd, hg⟩
      have HD4 := keep (hd.mono (K' := K + 6) (by omega))
      have HG4 := keep (zgb_trans (zgb_alloc HG3.out _) hg)
      clear hd hg
      go_wp2_with fail
      refine (FR.out v _ hv).mono ?_
      rintro e w5 ⟨rfl, hw⟩
      have hw := hw.symm
      subst hw
      go_wp2_with (refine wpList_farith_lt rfl .mul _ _ _ _ rfl rfl _ _ rfl rfl ?_; intro z m hz lz)
      go_ret
      exact ⟨_, lz, rfl, HD4.out.later (Below.drewN _ _ _) (HD4.out.lt), zgb_below HG4.out (Below.drewN _ _ _) (Nat.le_refl _)⟩

/-- A row of words, from a base on. -/
def Wds (w : World) (B : Nat) (v : Value) (xs : List Nat) : Prop := w.ownsRow B 28 1 v xs.length (xs.map fvw)

set_option maxHeartbeats 4000000 in
set_option maxRecDepth 20000 in
theorem l01DrawFloats_ok (g : Nat) (a : Option Addr) (n c K N : Nat) (w : World) (h : Drawn w g a n c K) (hK : K ≤ 100) (hN : N ≤ 100) :
    Calls Tryz.prog 64 #[.pointer (some ⟨g, 0, none⟩), .int .i64 N] w fun e w' => ∃ (xs : List Nat) (A : Option Addr) (cp : Nat), xs.length = N ∧ (∀ x ∈ xs, x < 4294967296) ∧ e = .returned (.slice A N cp) ∧ Wds w' w.heap.size (.slice A N cp) xs ∧ w.grownBy w' (some g) := by
  have ON := keep (fun w h => one_any 4 g a n c K w h (by omega) (by omega) (by omega))
  have DP := keep (fun K w h hK => l01DrawPlain_ok g a n c K w h hK)
  have DF := keep (fun K w h hK => l01DrawFloat_ok g a n c K w h hK)
  have lg := h.lt
  have D1 := keep (h.alloc (.cells #[] 28))
  have G1 := keep (zgb_alloc (World.grownBy.refl w (some g)) (.cells #[] 28))
  have R1 := keep (Has.made w 28 #[])
  clear h
  go_enter Tryz.func64, Tryz.ntmps64
  go_wp2_with fail
  refine (ON.out _ D1.out).mono ?_
  rintro e w1 ⟨bb, rfl, hd, hg⟩
  have D2 := keep hd
  have G2 := keep (zgb_trans G1.out hg)
  have R2 := keep (zhas_byG R1.out hg (by intro e; injection e with e; omega))
  clear hd hg D1 G1 R1
  go_wp2_with fail
  go_loopw [1, 5] (fun t s wr => ∃ (j : Nat) (xs : List Nat) (A : Option Addr) (cp : Nat), j + xs.length = N ∧ t = .int .i64 j ∧ s = .slice A xs.length cp ∧ Kept (∀ x ∈ xs, x < 4294967296) ∧ Kept (wr.ownsRow w.heap.size 28 1 (.slice A xs.length cp) xs.length (xs.map fvw)) ∧ Kept (Drawn wr g a n c (K + 1 + 6 * xs.length)) ∧ Kept (w.grownBy wr (some g))) (fun t _ _ => (intOf t).toNat)
  case atStart => exact ⟨N, [], _, _, rfl, rfl, rfl, keep (fun p h => by cases h), keep ⟨rfl, .inr ⟨w.heap.size, 0, #[], rfl, Nat.le_refl _, R2.out, Nat.le_refl _, by simp [maxLen], rfl, rfl⟩⟩, D2, G2⟩
  case round =>
    clear D2 R2 G2
    obtain ⟨j, xs, A, cp, hj, rfl, rfl, hok, ho, hd, hg⟩ := hrel
    by_cases hlt : 0 < j
    · have hi : ((0 : Int) < (j : Int)) := by omega
      obtain ⟨i0, hi0, hz0, hz1, hz2⟩ := info_parts infoF32
      have HI := keep hi0
      have HZ0 := keep hz0
      have HZ1 := keep hz1
      have HZ2 := keep hz2
      have wj : IntKind.i64.wrap ((j : Int) - 1) = ((j - 1 : Nat) : Int) := by rw [IntWalk.i64_in _ ⟨by omega, by omega⟩]; omega
      clear hi0 hz0 hz1 hz2
      cases bb
      all_goals
        go_wp2_with fail
        refine Calls.mono (by first | exact DP.out _ _ hd.out (by omega) | exact DF.out _ _ hd.out (by omega)) ?_
        rintro e w3 ⟨r, hr, rfl, hd3, hg3⟩
        have D3 := keep (hd3.mono (K' := K + 1 + 6 * xs.length + 6) (by omega))
        have O3 := keep (zown_byG ho.out hg3 lg)
        have G3 := keep (zgb_trans hg.out hg3)
        have z3 := G3.out.size
        clear hd3 hg3 hd ho hg
        go_wp2_with (at_builtin; go_loud (refine wpList_append_own_at _ rfl _ _ 52 rfl w.heap.size 28 i0 _ 1 4 Tryz.underlying52 HI.out HZ0.out HZ1.out HZ2.out rfl (by decide) (.slice A xs.length cp) xs.length _ rfl (O3.out.alloc _) ⟨w3.heap.size, 0, none⟩ 1 1 [.float .f32 r] rfl rfl ?c1 ?c2 ?c3 ?c4 ?c5 ?_))
        case c1 =>
          intro i u hi
          rw [Addr.add_lit, Nat.zero_add]
          have e := (zhas_one w3 (.float .f32 r) 28).cells i
          rw [e]
          simpa using hi
        case c2 =>
          intro u hu
          rw [List.mem_singleton.1 hu]; rfl
        case c3 => unfold maxLen; omega
        case c4 => omega
        case c5 => first | omega | (simp only [World.size_alloc]; omega)
        intro v' w5 hown' hgrow _ _
        obtain ⟨g', cap', rfl, hB', hlt'⟩ := hown'.form (by omega)
        have hL := O3.out.lt
        have bX : Below w.heap.size (w3.alloc (.cells #[.float .f32 r] 28)) w5 := (Below.refl w.heap.size _).grown hgrow (by simp only [World.size_alloc]; omega) (fun b e => (hL b e).1)
        have D6 := keep ((D3.out.alloc (.cells #[.float .f32 r] 28)).later bX lg)
        have G6 := keep (zgb_below (zgb_alloc G3.out (.cells #[.float .f32 r] 28)) bX (Nat.le_refl _))
        have OW := keep hown'
        clear hown' hgrow bX hL
        go_wp2_with fail
        go_roundw
        case rel => exact ⟨j - 1, xs ++ [r], _, _, by rw [List.length_append]; show j - 1 + (xs.length + 1) = N; omega, by go_num, by rw [List.length_append]; rfl, keep (fun x hx => by
            rcases List.mem_append.1 hx with h1 | h1
            · exact hok.out x h1
            · rw [List.mem_singleton.1 h1]; exact hr), keep (by
            have e := OW.out
            rw [List.map_append, List.length_append]
            exact e), keep (D6.out.mono (by rw [List.length_append]; show _ ≤ K + 1 + 6 * (xs.length + 1); omega)), G6⟩
        case measure => simp [intOf]; omega
    · obtain rfl : j = 0 := by omega
      have hN2 : xs.length = N := by omega
      have HN := keep hN2
      go_wp2_with fail
      go_ret
      exact ⟨xs, A, cp, hN2, hok.out, by rw [hN2]; rfl, by rw [← hN2]; exact ho.out, hg.out⟩

set_option maxHeartbeats 1000000 in
theorem B10Number_ok (a : Option Addr) (n c : Nat) (w : World) (hb : Bytes w a n) :
    Calls Tryz.prog 19 #[.slice a n c] w fun e w' => ∃ r : Nat, r < 4294967296 ∧ e = .returned (.float .f32 r) ∧ Below w.heap.size w w' := by
  have FR := keep (zFrom_ok a n c w hb)
  have O := keep (fun w1 h => one_any 2 w.heap.size a n c 0 w1 h (by omega) (by omega) (by omega))
  have PB := keep (fun K w1 h hK => pick_big 65536 w.heap.size a n c K w1 h hK (by omega) (by omega))
  have DF := keep (fun K w1 h hK => l01DrawFloat_ok w.heap.size a n c K w1 h hK)
  have LF := keep (fun v w hv => l01From_b v w hv)
  clear hb
  go_enter Tryz.func19, Tryz.ntmps19
  go_wp2_with fail
  refine FR.out.mono ?_
  rintro e w1 ⟨rfl, hd, hb⟩
  have D1 := keep hd
  have B1 := keep hb
  clear hd hb
  go_wp2_with fail
  refine (O.out _ D1.out).mono ?_
  rintro e w2 ⟨b, rfl, hd, hg⟩
  have D2 := keep hd
  have B2 := keep (B1.out.grown hg B1.out.size (fun g e => by injection e with e; omega))
  clear hd hg
  cases b
  · go_wp2_with fail
    refine (DF.out _ _ D2.out (by omega)).mono ?_
    rintro e w3 ⟨r, hr, rfl, hd, hg⟩
    have B3 := keep (B2.out.grown hg B2.out.size (fun g e => by injection e with e; omega))
    clear hd hg
    go_wp2_with fail
    go_ret
    exact ⟨r, hr, rfl, B3.out⟩
  · go_wp2_with fail
    refine (PB.out _ _ D2.out (by omega)).mono ?_
    rintro e w3 ⟨u, hu, rfl, hd, hg⟩
    have D3 := keep hd
    have B3 := keep (B2.out.grown hg B2.out.size (fun g e => by injection e with e; omega))
    have wu : IntKind.i64.wrap ((u : Int) * 65536) = (u : Int) * 65536 := IntWalk.i64_in _ ⟨by omega, by omega⟩
    clear hd hg
    go_wp2_with fail
    refine (PB.out _ _ D3.out (by omega)).mono ?_
    rintro e w4 ⟨v, hv, rfl, hd, hg⟩
    have B4 := keep (B3.out.grown hg B3.out.size (fun g e => by injection e with e; omega))
    have wv : IntKind.i64.wrap ((u : Int) * 65536 + (v : Int)) = ((u * 65536 + v : Nat) : Int) := by
      rw [IntWalk.i64_in _ ⟨by omega, by omega⟩]; omega
    clear hd hg
    go_wp2_with fail
    refine (LF.out (u * 65536 + v) _ (by omega)).mono ?_
    rintro e w5 ⟨rfl, hw⟩
    have hw := hw.symm
    subst hw
    go_wp2_with fail
    go_ret
    exact ⟨u * 65536 + v, by omega, rfl, B4.out⟩

set_option maxHeartbeats 1000000 in
theorem B10Numbers_ok (a : Option Addr) (n c N : Nat) (w : World) (hb : Bytes w a n) (hN : N ≤ 100) :
    Calls Tryz.prog 29 #[.slice a n c, .int .i64 N] w fun e w' => ∃ (xs : List Nat) (A : Option Addr) (cp : Nat), xs.length = N ∧ (∀ x ∈ xs, x < 4294967296) ∧ e = .returned (.slice A N cp) ∧ Wds w' w.heap.size (.slice A N cp) xs ∧ Below w.heap.size w w' := by
  have FR := keep (zFrom_ok a n c w hb)
  have DF := keep (fun w1 h => l01DrawFloats_ok w.heap.size a n c 0 N w1 h (by omega) hN)
  clear hb
  go_enter Tryz.func29, Tryz.ntmps29
  go_wp2_with fail
  refine FR.out.mono ?_
  rintro e w1 ⟨rfl, hd, hb⟩
  have D1 := keep hd
  have B1 := keep hb
  clear hd hb
  go_wp2_with fail
  refine (DF.out _ D1.out).mono ?_
  rintro e w2 ⟨xs, A, cp, hl, hx, rfl, ho, hg⟩
  have B2 := keep (B1.out.grown hg B1.out.size (fun g e => by injection e with e; omega))
  have HO := keep (show Wds w2 w.heap.size (.slice A N cp) xs from own_base ho B1.out.size)
  clear hg ho
  go_wp2_with fail
  go_ret
  exact ⟨xs, A, cp, hl, hx, rfl, HO.out, B2.out⟩
end Go.Proofs.YtcmppipilihmkaaGreatDoor
