/- Contract: the energy of two streams. -/
import Derived.Test.YtnmdgbnophclnaaPj
namespace Go.Proofs.Ytnmdgbnophclnaa
open Go.RowKit Go.Sort Ieee
set_option linter.unusedSimpArgs false

def ones (k : Nat) : List Int := List.replicate k 1
theorem ones_length (k : Nat) : (ones k).length = k := List.length_replicate
theorem ones_succ (k : Nat) : ones (k + 1) = ones k ++ [1] := by unfold ones; rw [List.replicate_succ']
theorem ones_at (k i : Nat) (h : i < k) : (fRow 3 (ones k))[i]? = some (.float .f32 (wd single 3 1)) := by
  have e := fRow_at 3 (ones k) i (by rw [ones_length]; exact h)
  rw [e]
  simp [ones]

set_option maxHeartbeats 8000000 in
set_option maxRecDepth 20000 in
theorem energies_ts (W H c m b : Nat) (hc : 1 ≤ c ∧ c ≤ 8) (B : Nat) (v : Value) (w : World) (hown : RowP w B v (tsL W H (2 * c) (2 * c))) :
    Calls Try.prog 108 #[cloudV W H v m b] w fun e w' => ∃ v', e = .returned v' ∧ w'.ownsRow w.heap.size 27 1 v' (2 * c) (fRow 3 (ones (2 * c))) ∧ Below w.heap.size w w' := by
  obtain ⟨A, cp, rfl, hA⟩ := ts_form hown
  have HA := keep hA
  have hn : 2 ≤ 2 * c ∧ 2 * c ≤ 16 := by omega
  have P := keep (Has.made w 29 #[.int .i64 W, .int .i64 H, .slice A (2 * c) cp, .float .f32 m, .float .f32 b])
  have B0 := keep ((Below.refl w.heap.size w).alloc (Nat.le_refl _) (.cells #[.int .i64 W, .int .i64 H, .slice A (2 * c) cp, .float .f32 m, .float .f32 b] 29))
  have R0 := keep (World.ownsRow_nil (w.alloc (.cells #[.int .i64 W, .int .i64 H, .slice A (2 * c) cp, .float .f32 m, .float .f32 b] 29)) (w.heap.size + 1) 27 1)
  obtain ⟨i0, hi0, hz0, hz1, hz2⟩ := info_parts infoF32
  have HI := keep hi0
  have HZ0 := keep hz0
  have HZ1 := keep hz1
  have HZ2 := keep hz2
  clear hown hA hi0 hz0 hz1 hz2 hc
  generalize 2 * c = n at *
  unfold cloudV at *
  go_enter Try.func108, Try.ntmps108
  have cg := P.out.cells
  go_wp2_with fail
  clear cg P
  have zw : (w.alloc (.cells #[.int .i64 W, .int .i64 H, .slice A n cp, .float .f32 m, .float .f32 b] 29)).heap.size = w.heap.size + 1 := World.size_alloc ..
  generalize w.alloc (.cells #[.int .i64 W, .int .i64 H, .slice A n cp, .float .f32 m, .float .f32 b] 29) = w0 at *
  go_loopw [9, 3] (fun s t wr => ∃ (i : Nat) (D : Option Addr) (d : Nat), i ≤ n ∧ s = .int .i64 i ∧ t = .slice D i d ∧ Kept (wr.ownsRow (w.heap.size + 1) 27 1 (.slice D i d) i (fRow 3 (ones i))) ∧ Kept (w.heap.size + 1 ≤ wr.heap.size) ∧ Kept (Below w.heap.size w wr)) (fun s _ _ => n - (intOf s).toNat)
  case atStart => exact ⟨0, none, 0, Nat.zero_le _, rfl, rfl, R0, keep (by omega), B0⟩
  case round =>
    clear R0 B0
    obtain ⟨i, D, d, hi, rfl, rfl, hR, hz, hb⟩ := hrel
    by_cases hlt : i < n
    · obtain ⟨g, rfl, hg, c0, c1, c2, c3⟩ := HA.out i hlt
      have d0 := (hb.out.cell (p := ⟨g, i * 4, none⟩) hg).trans c0
      have d1 := (hb.out.cell (p := ⟨g, i * 4 + 1, none⟩) hg).trans c1
      have d2 := (hb.out.cell (p := ⟨g, i * 4 + 2, none⟩) hg).trans c2
      have d3 := (hb.out.cell (p := ⟨g, i * 4 + 3, none⟩) hg).trans c3
      have PO := keep (fun w => PowerOf_ts i w)
      have fm1 := frun ts_quart.2.2.1
      have fm2 := frun ts_quart.2.2.2
      have K1 := keep (hR.out.alloc (.cells #[.complex .f32 (tsX W n i) (tsY H), .complex .f32 (tsU i) 0, .float .f32 3212836864, .float .f32 1065353216] 52))
      have K2 := keep (Has.made wr 52 #[.complex .f32 (tsX W n i) (tsY H), .complex .f32 (tsU i) 0, .float .f32 3212836864, .float .f32 1065353216])
      have HB2 := keep (hb.out.alloc hb.out.size (.cells #[.complex .f32 (tsX W n i) (tsY H), .complex .f32 (tsU i) 0, .float .f32 3212836864, .float .f32 1065353216] 52))
      have hz2 := hz.out
      have zr : wr.heap.size < (wr.alloc (.cells #[.complex .f32 (tsX W n i) (tsY H), .complex .f32 (tsU i) 0, .float .f32 3212836864, .float .f32 1065353216] 52)).heap.size := by rw [World.size_alloc]; omega
      clear c0 c1 c2 c3 hR hz hb HA
      go_wp2_with fail
      clear d0 d1 d2 d3
      generalize wr.alloc (.cells #[.complex .f32 (tsX W n i) (tsY H), .complex .f32 (tsU i) 0, .float .f32 3212836864, .float .f32 1065353216] 52) = W0 at *
      have kp1 := K2.out.cells 1
      have kp3 := K2.out.cells 3
      have K3 := keep (owns_below (w' := (W0.alloc (.cells #[.float .f32 1040187392] 27)).drew) (K1.out.alloc (.cells #[.float .f32 1040187392] 27)) (Below.drew (Below.refl _ _)))
      have H3 := keep (show Has (W0.alloc (.cells #[.float .f32 1040187392] 27)).drew W0.heap.size 27 #[.float .f32 1040187392] from Has.made W0 27 #[.float .f32 1040187392])
      have Z3 := keep (show w.heap.size + 1 ≤ (W0.alloc (.cells #[.float .f32 1040187392] 27)).drew.heap.size from by show w.heap.size + 1 ≤ (W0.alloc (.cells #[.float .f32 1040187392] 27)).heap.size; rw [World.size_alloc]; omega)
      go_region_law (first
        | (refine step_append_lies _ rfl (.tmp 13) (.tmp 21) 43 rfl (w.heap.size + 1) 27 i0 _ 1 4 Try.underlying43 HI.out HZ0.out HZ1.out HZ2.out rfl (by decide) (.slice D i d) i _ (by simp [Act.eval, Act.put]) K3.out ⟨W0.heap.size, 0, none⟩ 1 1 [.float .f32 1040187392] (by simp [Act.eval, Act.put]) rfl (four_new' H3.out) (fun u hu => by rw [List.mem_singleton.1 hu]; rfl) (by decide) (by show i + 1 ≤ 9223372036854775807; omega) (by omega) Z3.out _ rfl ?_
           intro g7 cap7 w7 hown7 hgrow7 hor7 hlt7)
        | (go_simp
           go_at_call 68
           refine (PO.out _).mono ?_
           rintro e w5 ⟨rfl, hw5⟩
           subst hw5))
      all_goals (
        have bX : Below (w.heap.size + 1) _ w7 := (Below.refl (w.heap.size + 1) _).grown hgrow7 Z3.out (fun b e => (K3.out.lt b e).1)
        have B7 := keep ((Below.drew (HB2.out.alloc (by omega) (.cells #[.float .f32 1040187392] 27))).trans (bX.mono (by omega)))
        have Z7 := keep (show w.heap.size + 1 ≤ w7.heap.size from Nat.le_trans Z3.out bX.size)
        have R7 := keep hown7
        clear K1 K2 HB2 bX kp1 kp3 K3 H3 Z3 PO hown7 hgrow7 hor7 hlt7 fm1 fm2
        go_wp2_with fail
        go_roundw)
      all_goals first
        | exact ⟨i + 1, some ⟨g7, 0, none⟩, cap7, by omega, by go_num, rfl, keep (by
            have e := R7.out
            rw [ones_succ, fRow_append]
            show World.ownsRow _ _ _ _ _ _ (fRow 3 (ones i) ++ [.float .f32 (wd single 3 1)])
            rw [ts_quart.2.1]
            exact e), Z7, B7⟩
        | (simp [intOf]; omega)
    · obtain rfl : i = n := by omega
      have R9 := keep (own_base (B' := w.heap.size) hR.out (by omega))
      go_wp2_with fail
      go_ret
      exact ⟨_, rfl, R9.out, hb.out⟩

set_option maxHeartbeats 2000000 in
set_option maxRecDepth 20000 in
theorem sum_ones (n : Nat) (hn : n ≤ 1000) (B : Nat) (v : Value) (w : World) (h : w.ownsRow B 27 1 v n (fRow 3 (ones n))) :
    Calls Try.prog 107 #[v] w fun e w' => e = .returned (.float .f32 (wd single 3 (n : Int))) ∧ w' = w := by
  have HC := keep (fun g hg j u hu => h.cells (g := g) hg j u hu)
  obtain ⟨A, c, rfl⟩ := own_slice h
  have HA := keep (show ∀ i, i < n → ∃ g, A = some ⟨g, 0, none⟩ ∧ w.cell? ⟨g, i, none⟩ = some (.float .f32 (wd single 3 1)) from fun i hi => by
    rcases h.2 with ⟨_, hn⟩ | ⟨g, cap, cur, e, _⟩
    · omega
    · injection e with e1
      subst e1
      have e := HC.out g rfl i _ (ones_at n i hi)
      rw [Addr.add_lit, Nat.zero_add] at e
      exact ⟨g, rfl, e⟩)
  have z0 : wd single 3 ((0 : Nat) : Int) = 0 := wd_zero single 3
  clear h HC
  go_enter Try.func107, Try.ntmps107
  go_wp2_with fail
  go_loopw [8, 3] (fun s t wr => ∃ (i : Nat), i ≤ n ∧ s = .int .i64 i ∧ t = .float .f32 (wd single 3 (i : Int)) ∧ wr = w) (fun s _ _ => n - (intOf s).toNat)
  case atStart => exact ⟨0, Nat.zero_le _, rfl, by rw [z0], rfl⟩
  case round =>
    clear z0
    obtain ⟨i, hi, rfl, rfl, hwr⟩ := hrel
    have hwr := hwr.symm
    subst hwr
    by_cases hlt : i < n
    · obtain ⟨g, rfl, hc⟩ := HA.out i hlt
      have f1 := frun (fadd (k := 3) (a := (i : Int)) (b := 1) (by omega) (by omega) (by omega) (by omega))
      go_wp2_with fail
      go_roundw
      case rel => exact ⟨i + 1, by omega, by go_num, by rw [Int.natCast_succ], by trivial⟩
      case measure => simp [intOf]; omega
    · obtain rfl : i = n := by omega
      go_wp2_with fail
      go_ret
      exact ⟨rfl, rfl⟩

set_option maxHeartbeats 2000000 in
set_option maxRecDepth 20000 in
theorem Kinetic_ts (W H c m b : Nat) (hc : 1 ≤ c ∧ c ≤ 8) (h : CloudPD W H (tsL W H (2 * c) (2 * c)) m b) (B : Nat) (v : Value) (w : World) (hown : RowP w B v (tsL W H (2 * c) (2 * c))) :
    Calls Try.prog 26 #[cloudV W H v m b] w fun e w' => e = .returned (.tuple #[.float .f32 (wd single 3 ((2 * c : Nat) : Int)), .bool true]) ∧ Below w.heap.size w w' := by
  have VC := keep (fun w h' => ValidCloudP_ok W H (tsL W H (2 * c) (2 * c)) m b h B v w h')
  have EN := keep (fun w h' => energies_ts W H c m b hc B v w h')
  have SU := keep (fun B v w h' => sum_ones (2 * c) (by omega) B v w h')
  obtain ⟨A, cp, rfl, _⟩ := ts_form hown
  have KI : Kept (∀ w, RowP w B (.slice A (2 * c) cp) (tsL W H (2 * c) (2 * c)) → Calls Try.prog 70 #[cloudV W H (.slice A (2 * c) cp) m b] w fun e w' => e = .returned (.float .f32 (wd single 3 ((2 * c : Nat) : Int))) ∧ Below w.heap.size w w') := keep (by
    intro w hown
    have P := keep (Has.made w 29 #[.int .i64 W, .int .i64 H, .slice A (2 * c) cp, .float .f32 m, .float .f32 b])
    have B0 := keep ((Below.refl w.heap.size w).alloc (Nat.le_refl _) (.cells #[.int .i64 W, .int .i64 H, .slice A (2 * c) cp, .float .f32 m, .float .f32 b] 29))
    have HO := keep (owns_below hown B0.out)
    clear hown h hc VC
    unfold cloudV at *
    go_enter Try.func70, Try.ntmps70
    have cg := P.out.cells
    go_wp2_with fail
    refine (EN.out _ HO.out).mono ?_
    rintro e w1 ⟨v1, rfl, hr, hb⟩
    have R1 := keep hr
    have B1 := keep (B0.out.trans (hb.mono B0.out.size))
    clear hr hb cg P HO B0 EN
    go_wp2_with fail
    refine (SU.out _ _ _ R1.out).mono ?_
    rintro e w2 ⟨rfl, rfl⟩
    go_wp2_with fail
    go_ret
    exact ⟨rfl, B1.out⟩)
  have P := keep (Has.made w 29 #[.int .i64 W, .int .i64 H, .slice A (2 * c) cp, .float .f32 m, .float .f32 b])
  have B0 := keep ((Below.refl w.heap.size w).alloc (Nat.le_refl _) (.cells #[.int .i64 W, .int .i64 H, .slice A (2 * c) cp, .float .f32 m, .float .f32 b] 29))
  have HO := keep (owns_below hown B0.out)
  clear hown h hc EN SU
  unfold cloudV at *
  go_enter Try.func26, Try.ntmps26
  have cg := P.out.cells
  go_wp2_with fail
  refine (VC.out _ HO.out).mono ?_
  rintro e w1 ⟨rfl, hb⟩
  have p1 := P.out.after hb
  clear cg
  have cg := p1.cells
  have O1 := keep (owns_below HO.out hb)
  have B1 := keep (B0.out.trans (hb.mono B0.out.size))
  clear hb P HO B0 VC
  go_wp2_with fail
  refine (KI.out _ O1.out).mono ?_
  rintro e w2 ⟨rfl, hb⟩
  have B2 := keep (B1.out.trans (hb.mono B1.out.size))
  go_wp2_with fail
  go_ret2
  exact ⟨rfl, B2.out⟩
end Go.Proofs.Ytnmdgbnophclnaa
