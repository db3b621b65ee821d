/- Contracts: valid clouds of valid particles, by the program and by the reference. -/
import Derived.Test.YtdkjaffnkgbcnaaGreatDoorVCloud
namespace Go.Proofs.YtdkjaffnkgbcnaaGreatDoor
open Go.RowKit Go.Sort

def okCloud (wd hg : Int) (n mg bk : Nat) : Bool := okGrid wd hg && decide (n ≤ 48) && (fin .f32 mg && fin .f32 bk)

set_option maxHeartbeats 1000000 in
set_option maxRecDepth 20000 in
theorem ValidCloud_ok (B : Nat) (v : Value) (ps : List PD) (wd hg : Int) (mg bk : Nat) (w : World) (hown : w.ownsRow B 43 4 v ps.length (psCells ps)) (hok : ps.all PD.ok = true) :
    Calls Tryz.prog 14 #[cloudV wd hg v mg bk] w fun e w' => e = .returned (.bool (okCloud wd hg ps.length mg bk)) ∧ Below w.heap.size w w' := by
  obtain ⟨A, c, rfl⟩ : ∃ A c, v = .slice A ps.length c := by
    rcases hown.2 with ⟨rfl, hn⟩ | ⟨g, cap, cur, rfl, _⟩
    · exact ⟨_, _, by rw [hn]⟩
    · exact ⟨_, _, rfl⟩
  have hG := fun w => ValidGrid_any wd hg w
  have hB0 := (Below.refl w.heap.size w).alloc (Nat.le_refl _) (.cells #[.int .i64 wd, .int .i64 hg, .slice A ps.length c, .float .f32 mg, .float .f32 bk] 27)
  have B0 := keep hB0
  have P0 := keep (Has.made w 27 #[.int .i64 wd, .int .i64 hg, .slice A ps.length c, .float .f32 mg, .float .f32 bk])
  have O0 := keep (hown.alloc (.cells #[.int .i64 wd, .int .i64 hg, .slice A ps.length c, .float .f32 mg, .float .f32 bk] 27))
  have HO := keep hok
  unfold okCloud
  clear hown hok hB0
  cases h1 : okGrid wd hg
  · rw [h1] at hG
    have HG := keep hG
    clear hG h1
    unfold cloudV
    go_enter Tryz.func14, Tryz.ntmps14
    go_wp2_with fail
    refine (HG.out _).mono ?_
    rintro e w' ⟨rfl, hb⟩
    go_wp2_with fail
    go_ret
    exact ⟨by simp, B0.out.trans (hb.mono (by simp))⟩
  · rw [h1] at hG
    have HG := keep hG
    clear hG h1
    cases h2 : decide (ps.length ≤ 48)
    · have hd : decide ((ps.length : Int) ≤ 48) = false := by have := of_decide_eq_false h2; simp; omega
      unfold cloudV
      go_enter Tryz.func14, Tryz.ntmps14
      go_wp2_with fail
      refine (HG.out _).mono ?_
      rintro e w' ⟨rfl, hb⟩
      have c1 := (P0.out.after hb).cells
      go_wp2_with fail
      go_ret
      exact ⟨by simp, B0.out.trans (hb.mono (by simp))⟩
    · have hle : ps.length ≤ 48 := of_decide_eq_true h2
      have hd : decide ((ps.length : Int) ≤ 48) = true := by simp; omega
      have HL := keep hle
      clear h2 hle
      unfold cloudV
      go_enter Tryz.func14, Tryz.ntmps14
      go_wp2_with fail
      refine (HG.out _).mono ?_
      rintro e w1 ⟨rfl, hb⟩
      have p1 := P0.out.after hb
      have P1 := keep p1
      have O1 := keep (owns_below O0.out hb)
      have B1 := keep (B0.out.trans (hb.mono (by simp)))
      have c1 := p1.cells
      clear hb p1
      go_wp2_with fail
      refine (AreParticles_ok B _ ps _ O1.out HO.out (by have := HL.out; omega)).mono ?_
      rintro e w2 ⟨rfl, hb2⟩
      have p2 := P1.out.after hb2
      have B2 := keep (B1.out.trans (hb2.mono B1.out.size))
      have c2 := p2.cells
      clear hb2 p2 c1
      have hA := areFinite_two mg bk w2.heap.size 2
      cases h3 : (fin .f32 mg && fin .f32 bk)
      all_goals
        rw [h3] at hA
        have HA := keep hA
        clear hA
        go_wp2_with fail
        refine (HA.out _ (by go_simp) (by go_simp)).mono ?_
        rintro e w3 ⟨rfl, m, rfl⟩
        go_wp2_with fail
        go_ret
        exact ⟨by rw [h3]; simp, Below.drewN_of (B2.out.alloc B2.out.size _) _⟩

set_option maxHeartbeats 1000000 in
set_option maxRecDepth 20000 in
theorem l05Is_ok (B b : Nat) (v : Value) (ps : List PD) (wd hg : Int) (mg bk : Nat) (w : World) (hown : w.ownsRow B 43 4 v ps.length (psCells ps)) (hok : ps.all PD.ok = true) (hN : ps.length ≤ 2000000)
    (hb : ∀ i, w.cell? ⟨b, i, none⟩ = #[Value.int .i64 wd, .int .i64 hg, v, .float .f32 mg, .float .f32 bk][i]?) :
    Calls Tryz.prog 43 #[.pointer (some ⟨b, 0, none⟩)] w fun e w' => e = .returned (.bool (okCloud wd hg ps.length mg bk)) ∧ ∃ m, w' = w.drewN m := by
  obtain ⟨A, c, rfl, hA⟩ : ∃ A c, v = .slice A ps.length c ∧ (0 < ps.length → ∃ g, A = some ⟨g, 0, none⟩ ∧ g < w.heap.size ∧ ∀ j u, (psCells ps)[j]? = some u → w.cell? ⟨g, j, none⟩ = some u) := by
    rcases hown.2 with ⟨rfl, hn⟩ | ⟨g, cap, cur, rfl, _⟩
    · exact ⟨_, _, by rw [hn], fun h => by omega⟩
    · exact ⟨_, _, rfl, fun _ => ⟨g, rfl, (hown.lt g rfl).2, fun j u hu => owns_cell hown hu⟩⟩
  have HA := keep hA
  have HO := keep hok
  have hG := fun w c0 c1 => l02Is_any wd hg b w c0 c1
  clear hown hA hok
  unfold okCloud
  have k0 : w.cell? ⟨b, 0, none⟩ = some (.int .i64 wd) := hb 0
  have k1 : w.cell? ⟨b, 1, none⟩ = some (.int .i64 hg) := hb 1
  have k2 : w.cell? ⟨b, 2, none⟩ = some (.slice A ps.length c) := hb 2
  have k3 : w.cell? ⟨b, 3, none⟩ = some (.float .f32 mg) := hb 3
  have k4 : w.cell? ⟨b, 4, none⟩ = some (.float .f32 bk) := hb 4
  clear hb
  cases h1 : okGrid wd hg
  · rw [h1] at hG
    have HG := keep (hG w k0 k1)
    clear hG h1
    go_enter Tryz.func43, Tryz.ntmps43
    go_wp2_with fail
    refine HG.out.mono ?_
    rintro e w' ⟨rfl, hw⟩
    obtain rfl : w = w' := hw.symm
    clear hw
    go_wp2_with fail
    go_ret
    exact ⟨by simp, 0, rfl⟩
  · rw [h1] at hG
    have HG := keep (hG w k0 k1)
    clear hG h1
    cases h2 : decide (ps.length ≤ 48)
    · have hd : decide ((48 : Int) < (ps.length : Int)) = true := by have := of_decide_eq_false h2; simp; omega
      go_enter Tryz.func43, Tryz.ntmps43
      go_wp2_with fail
      refine HG.out.mono ?_
      rintro e w' ⟨rfl, hw⟩
      obtain rfl : w = w' := hw.symm
      clear hw
      go_wp2_with fail
      go_ret
      exact ⟨by simp, 0, rfl⟩
    · have hd : decide ((48 : Int) < (ps.length : Int)) = false := by have := of_decide_eq_true h2; simp; omega
      clear h2
      cases h3 : fin .f32 mg
      · go_enter Tryz.func43, Tryz.ntmps43
        go_wp2_with fail
        refine HG.out.mono ?_
        rintro e w' ⟨rfl, hw⟩
        obtain rfl : w = w' := hw.symm
        clear hw
        go_wp2_with fail
        refine (l01Finite32 _ _).mono ?_
        rw [h3]
        rintro e w' ⟨rfl, m, rfl⟩
        go_wp2_with fail
        go_ret
        exact ⟨by simp, _, rfl⟩
      · cases h4 : fin .f32 bk
        · go_enter Tryz.func43, Tryz.ntmps43
          go_wp2_with fail
          refine HG.out.mono ?_
          rintro e w' ⟨rfl, hw⟩
          obtain rfl : w = w' := hw.symm
          clear hw
          go_wp2_with fail
          refine (l01Finite32 _ _).mono ?_
          rw [h3]
          rintro e w' ⟨rfl, m, rfl⟩
          go_wp2_with fail
          refine (l01Finite32 _ _).mono ?_
          rw [h4]
          rintro e w' ⟨rfl, m2, rfl⟩
          go_wp2_with fail
          go_ret
          exact ⟨by simp, _, rfl⟩
        · go_enter Tryz.func43, Tryz.ntmps43
          go_wp2_with fail
          refine HG.out.mono ?_
          rintro e w' ⟨rfl, hw⟩
          obtain rfl : w = w' := hw.symm
          clear hw
          go_wp2_with fail
          refine (l01Finite32 _ _).mono ?_
          rw [h3]
          rintro e w' ⟨rfl, m, rfl⟩
          go_wp2_with fail
          refine (l01Finite32 _ _).mono ?_
          rw [h4]
          rintro e w' ⟨rfl, m2, rfl⟩
          go_wp2_with fail
          go_loopw [38] (fun s wr => ∃ i n : Nat, i ≤ ps.length ∧ s = .int .i64 i ∧ wr = w.drewN n) (fun s _ => ps.length - (intOf s).toNat)
          case atStart => exact ⟨0, _, Nat.zero_le _, rfl, rfl⟩
          case round =>
            obtain ⟨i, n, hi, rfl, rfl⟩ := hrel
            by_cases hlt : i < ps.length
            · obtain ⟨g, rfl, hg, hcell⟩ := HA.out (by omega)
              have c0 : w.cell? ⟨g, i * 4, none⟩ = some (.complex .f32 ps[i].a ps[i].b) := hcell _ _ (psCells_at _ i hlt 0 (by omega))
              have c1 : w.cell? ⟨g, i * 4 + 1, none⟩ = some (.complex .f32 ps[i].c ps[i].d) := hcell _ _ (psCells_at _ i hlt 1 (by omega))
              have c2 : w.cell? ⟨g, i * 4 + 2, none⟩ = some (.float .f32 ps[i].q) := hcell _ _ (psCells_at _ i hlt 2 (by omega))
              have c3 : w.cell? ⟨g, i * 4 + 3, none⟩ = some (.float .f32 ps[i].m) := hcell _ _ (psCells_at _ i hlt 3 (by omega))
              have hoki : ps[i].ok = true := List.all_eq_true.1 HO.out _ (List.getElem_mem hlt)
              have hE := l02Particle_at ps[i].a ps[i].b ps[i].c ps[i].d ps[i].q ps[i].m g (i * 4) (w.drewN n) c0 c1 c2 c3
              rw [show validP ps[i].a ps[i].b ps[i].c ps[i].d ps[i].q ps[i].m = true from hoki] at hE
              have HE := keep hE
              clear hE hoki hcell HA HO c0 c1 c2 c3 HG
              go_wp2_with fail
              refine HE.out.mono ?_
              rintro e w2 ⟨rfl, m3, rfl⟩
              go_wp2_with fail
              refine ⟨⟨i + 1, _, by omega, by go_num, rfl⟩, by simp [intOf]; omega⟩
            · obtain rfl : i = ps.length := by omega
              go_wp2_with fail
              go_ret
              exact ⟨by simp, _, rfl⟩
end Go.Proofs.YtdkjaffnkgbcnaaGreatDoor
