/- Contracts: drawn numbers, of any 32 bits. No condition but that the bytes can be read. -/
import Derived.Test.YtldnldgndjbhfaaDoorZa
import Derived.Test.YtldnldgndjbhfaaDoorUi
namespace Go.Proofs.YtldnldgndjbhfaaDoor
open Go.RowKit Go.Sort Ieee
set_option linter.unusedSimpArgs false

theorem div7_all : ∀ n : Fin 129, (floatBits .quo .f32 (floatOfInt .f32 ((n.val : Int) - 64)) 1088421888).isSome = true := by decide +kernel
theorem div7_some (x : Int) (h0 : -64 ≤ x) (h1 : x ≤ 64) : ∃ r, floatBits .quo .f32 (floatOfInt .f32 x) 1088421888 = some r ∧ r < 4294967296 := by
  have h := div7_all ⟨(x + 64).toNat, by omega⟩
  rw [show (((x + 64).toNat : Nat) : Int) - 64 = x by omega] at h
  obtain ⟨r, hr⟩ := Option.isSome_iff_exists.1 h
  exact ⟨r, hr, floatBits_lt rfl hr⟩
theorem div16_all : ∀ n : Fin 129, (floatBits .quo .f32 (floatOfInt .f32 ((n.val : Int) - 64)) 1098907648).isSome = true := by decide +kernel
theorem div16_some (x : Int) (h0 : -64 ≤ x) (h1 : x ≤ 64) : ∃ r, floatBits .quo .f32 (floatOfInt .f32 x) 1098907648 = some r ∧ r < 4294967296 := by
  have h := div16_all ⟨(x + 64).toNat, by omega⟩
  rw [show (((x + 64).toNat : Nat) : Int) - 64 = x by omega] at h
  obtain ⟨r, hr⟩ := Option.isSome_iff_exists.1 h
  exact ⟨r, hr, floatBits_lt rfl hr⟩

/-- What is handed back: a word of 32 bits; the source has moved on by no more than j bytes. -/
def WordOut (g : Nat) (a : Option Addr) (n c K j : Nat) (w : World) (e : Ending) (w' : World) : Prop := ∃ r : Nat, r < 4294967296 ∧ e = .returned (.float .f32 r) ∧ Drawn w' g a n c (K + j) ∧ w.grownBy w' (some g)

set_option maxHeartbeats 1000000 in
theorem l01DrawPlain_ok (g : Nat) (a : Option Addr) (n c K : Nat) (w : World) (h : Drawn w g a n c K) (hK : K ≤ 900000) :
    Calls Tryd.prog 57 #[.pointer (some ⟨g, 0, none⟩)] w (WordOut g a n c K 2 w) := by
  have P := keep (pick_ok 129 g a n c K w h (by omega) (by omega) (by omega))
  have O := keep (fun w h => one_any 4 g a n c (K + 1) w h (by omega) (by omega) (by omega))
  clear h
  go_enter Tryd.func57, Tryd.ntmps57
  go_wp2_with fail
  refine P.out.mono ?_
  rintro e w1 ⟨r, hr, rfl, hd, hg⟩
  have HD := keep hd
  have HG := keep hg
  have wr : IntKind.i64.wrap ((r : Int) - 64) = (r : Int) - 64 := IntWalk.i64_in _ ⟨by omega, by omega⟩
  obtain ⟨x, hx, lx⟩ := div7_some ((r : Int) - 64) (by omega) (by omega)
  obtain ⟨y, hy, ly⟩ := div16_some ((r : Int) - 64) (by omega) (by omega)
  have fx := zrun hx
  have fy := zrun hy
  clear hd hg hx hy
  go_wp2_with fail
  refine (O.out _ HD.out).mono ?_
  rintro e w2 ⟨b, rfl, hd, hg⟩
  have HD2 := keep hd
  have HG2 := keep (zgb_trans HG.out hg)
  clear hd hg
  cases b
  · go_wp2_with fail
    go_ret
    exact ⟨y, ly, rfl, HD2.out, HG2.out⟩
  · go_wp2_with fail
    go_ret
    exact ⟨x, lx, rfl, HD2.out, HG2.out⟩

theorem Src8 {w : World} {g : Nat} {a : Option Addr} {n c K : Nat} (h : Drawn w g a n c K) (o : Obj) : Drawn (w.alloc o) g a n c K := h.alloc o

set_option maxHeartbeats 4000000 in
set_option maxRecDepth 20000 in
theorem l01DrawFloat_ok (g : Nat) (a : Option Addr) (n c K : Nat) (w : World) (h : Drawn w g a n c K) (hK : K ≤ 800000) :
    Calls Tryd.prog 45 #[.pointer (some ⟨g, 0, none⟩)] w (WordOut g a n c K 6 w) := by
  have O := keep (one_any 12 g a n c K w h (by omega) (by omega) (by omega))
  have P := keep (fun w h => pick_ok 4 g a n c (K + 1) w h (by omega) (by omega) (by omega))
  have PL := keep (fun K w h hK => l01DrawPlain_ok g a n c K w h hK)
  have PB := keep (fun K w h hK => pick_big 65536 g a n c K w h hK (by omega) (by omega))
  have AM := keep (fun b k cp K w h hK hk2 hk hb hc => among_ok g b k cp a n c K w h hK hk2 hk hb hc)
  have FR := keep (fun v w hv => l01From_b v w hv)
  have lg := h.lt
  clear h
  go_enter Tryd.func45, Tryd.ntmps45
  go_wp2_with fail
  refine O.out.mono ?_
  rintro e w1 ⟨b, rfl, hd, hg⟩
  have HD := keep hd
  have HG := keep hg
  have lg1 := hd.lt
  clear hd hg
  cases b
  · go_wp2_with fail
    refine (PL.out _ _ HD.out (by omega)).mono ?_
    rintro e w2 ⟨r, hr, rfl, hd, hg⟩
    have HD2 := keep (hd.mono (K' := K + 6) (by omega))
    have HG2 := keep (zgb_trans HG.out hg)
    clear hd hg
    go_wp2_with fail
    go_ret
    exact ⟨r, hr, rfl, HD2.out, HG2.out⟩
  · go_wp2_with fail
    refine (P.out _ HD.out).mono ?_
    rintro e w2 ⟨k, hk, rfl, hd, hg⟩
    have HD2 := keep hd
    have HG2 := keep (zgb_trans HG.out hg)
    have lg2 := hd.lt
    clear hd hg
    obtain rfl | rfl | rfl | rfl : k = 0 ∨ k = 1 ∨ k = 2 ∨ k = 3 := by omega
    · go_wp2_with fail
      refine (AM.out w2.heap.size 10 _ (K + 1 + 1) _ (HD2.out.alloc _) (by omega) (by omega) (by omega) (by omega) ?_).mono ?_
      · intro i hi
        rw [(Has.made w2 _ _).cells i]
        obtain rfl | rfl | rfl | rfl | rfl | rfl | rfl | rfl | rfl | rfl : i = 0 ∨ i = 1 ∨ i = 2 ∨ i = 3 ∨ i = 4 ∨ i = 5 ∨ i = 6 ∨ i = 7 ∨ i = 8 ∨ i = 9 := by omega
        · exact ⟨0, by omega, rfl⟩
        · exact ⟨2147483648, by omega, rfl⟩
        · exact ⟨2139095040, by omega, rfl⟩
        · exact ⟨4286578688, by omega, rfl⟩
        · exact ⟨2143289344, by omega, rfl⟩
        · exact ⟨1, by omega, rfl⟩
        · exact ⟨2139095039, by omega, rfl⟩
        · exact ⟨8388608, by omega, rfl⟩
        · exact ⟨8388607, by omega, rfl⟩
        · exact ⟨2147483649, by omega, rfl⟩
      rintro e w3 ⟨v, hv, rfl, hd, hg⟩
      have HD3 := keep (hd.mono (K' := K + 6) (by omega))
      have HG3 := keep (zgb_trans (zgb_alloc HG2.out _) hg)
      clear hd hg
      go_wp2_with fail
      refine (FR.out v _ hv).mono ?_
      rintro e w4 ⟨rfl, hw⟩
      have hw := hw.symm
      subst hw
      go_wp2_with fail
      go_ret
      exact ⟨v, hv, rfl, HD3.out, HG3.out⟩
    · go_wp2_with fail
      refine (PB.out _ _ HD2.out (by omega)).mono ?_
      rintro e w3 ⟨u, hu, rfl, hd, hg⟩
      have HD3 := keep hd
      have HG3 := keep (zgb_trans HG2.out hg)
      have wu : IntKind.i64.wrap ((u : Int) * 65536) = (u : Int) * 65536 := IntWalk.i64_in _ ⟨by omega, by omega⟩
      clear hd hg
      go_wp2_with fail
      refine (PB.out _ _ HD3.out (by omega)).mono ?_
      rintro e w4 ⟨v, hv, rfl, hd, hg⟩
      have HD4 := keep (hd.mono (K' := K + 6) (by omega))
      have HG4 := keep (zgb_trans HG3.out hg)
      have wv : IntKind.i64.wrap ((u : Int) * 65536 + (v : Int)) = ((u * 65536 + v : Nat) : Int) := by
        rw [IntWalk.i64_in _ ⟨by omega, by omega⟩]; omega
      clear hd hg
      go_wp2_with fail
      refine (FR.out (u * 65536 + v) _ (by omega)).mono ?_
      rintro e w5 ⟨rfl, hw⟩
      have hw := hw.symm
      subst hw
      go_wp2_with fail
      go_ret
      exact ⟨u * 65536 + v, by omega, rfl, HD4.out, HG4.out⟩
    · go_wp2_with fail
      refine (PB.out _ _ HD2.out (by omega)).mono ?_
      rintro e w3 ⟨u, hu, rfl, hd, hg⟩
      have HD3 := keep (hd.mono (K' := K + 6) (by omega))
      have HG3 := keep (zgb_trans HG2.out hg)
      have wu : IntKind.i64.wrap ((u : Int) * 65536) = ((u * 65536 : Nat) : Int) := by
        rw [IntWalk.i64_in _ ⟨by omega, by omega⟩]; omega
      clear hd hg
      go_wp2_with fail
      refine (FR.out (u * 65536) _ (by omega)).mono ?_
      rintro e w5 ⟨rfl, hw⟩
      have hw := hw.symm
      subst hw
      go_wp2_with fail
      go_ret
      exact ⟨u * 65536, by omega, rfl, HD3.out, HG3.out⟩
    · go_wp2_with fail
      refine (PL.out _ _ HD2.out (by omega)).mono ?_
      rintro e w3 ⟨r, hr, rfl, hd, hg⟩
      have HD3 := keep hd
      have HG3 := keep (zgb_trans HG2.out hg)
      have lg3 := hd.lt
      clear hd hg
      go_wp2_with fail
      refine (AM.out w3.heap.size 4 _ (K + 1 + 1 + 2) _ (HD3.out.alloc _) (by omega) (by omega) (by omega) (by omega) ?_).mono ?_
      · intro i hi
        rw [(Has.made w3 _ _).cells i]
        obtain rfl | rfl | rfl | rfl : i = 0 ∨ i = 1 ∨ i = 2 ∨ i = 3 := by omega
        · exact ⟨8388608, by omega, rfl⟩
        · exact ⟨2130706432, by omega, rfl⟩
        · exact ⟨1610612736, by omega, rfl⟩
        · exact ⟨536870912, by omega, rfl⟩
      rintro e w4 ⟨v, hv, rfl, hd, hg⟩
      have HD4 := keep (hd.mono (K' := K + 6) (by omega))
      have HG4 := keep (zgb_trans (zgb_alloc HG3.out _) hg)
      clear hd hg
      go_wp2_with fail
      refine (FR.out v _ hv).mono ?_
      rintro e w5 ⟨rfl, hw⟩
      have hw := hw.symm
      subst hw
      go_wp2_with (refine wpList_farith_lt rfl .mul _ _ _ _ rfl rfl _ _ rfl rfl ?_; intro z m hz lz)
      go_ret
      exact ⟨_, lz, rfl, HD4.out.later (Below.drewN _ _ _) (HD4.out.lt), zgb_below HG4.out (Below.drewN _ _ _) (Nat.le_refl _)⟩

/-- A row of words, from a base on. -/
def Wds (w : World) (B : Nat) (v : Value) (xs : List Nat) : Prop := w.ownsRow B 29 1 v xs.length (xs.map fvw)

end Go.Proofs.YtldnldgndjbhfaaDoor
