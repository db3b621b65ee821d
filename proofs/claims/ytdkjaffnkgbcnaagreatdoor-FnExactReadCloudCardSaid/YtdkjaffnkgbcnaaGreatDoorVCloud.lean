/- Contracts: valid grids, lists and clouds, by the program and by the reference. -/
import Derived.Test.YtdkjaffnkgbcnaaGreatDoorCloud
namespace Go.Proofs.YtdkjaffnkgbcnaaGreatDoor
open Go.RowKit Go.Sort

def PD.ok (p : PD) : Bool := validP p.a p.b p.c p.d p.q p.m
def okGrid (a b : Int) : Bool := (decide (4 ≤ a) && decide (a ≤ 16)) && (decide (4 ≤ b) && decide (b ≤ 16))

theorem l00In_any (n lo hi : Int) (w : World) : Calls Tryz.prog 62 #[.int .i64 n, .int .i64 lo, .int .i64 hi] w fun e w' => e = .returned (.bool (decide (lo ≤ n) && decide (n ≤ hi))) ∧ w' = w := by
  by_cases h : lo ≤ n
  all_goals
    go_enter Tryz.func62, Tryz.ntmps62
    go_wp2
    go_ret
    exact ⟨by first | (simp [h]; done) | (simp; omega), rfl⟩

set_option maxHeartbeats 1000000 in
theorem ValidGrid_any (a b : Int) (w : World) : Calls Tryz.prog 34 #[.agg #[.int .i64 a, .int .i64 b]] w fun e w' => e = .returned (.bool (okGrid a b)) ∧ Below w.heap.size w w' := by
  unfold okGrid
  have H := keep (fun n w => within_any n 4 16 w)
  cases h : (decide (4 ≤ a) && decide (a ≤ 16))
  all_goals
    have h1 := H.out a
    rw [h] at h1
    have H1 := keep h1
    clear h1 h
    go_enter Tryz.func34, Tryz.ntmps34
    go_wp2_with fail
    refine (H1.out _).mono ?_
    rintro e w' ⟨rfl, rfl⟩
    go_wp2_with fail
  · go_ret
    exact ⟨by simp, by go_grown⟩
  · refine (H.out _ _).mono ?_
    rintro e w' ⟨rfl, rfl⟩
    go_wp2_with fail
    go_ret
    exact ⟨by simp, by go_grown⟩

set_option maxHeartbeats 1000000 in
theorem l02Is_any (a b : Int) (g : Nat) (w : World) (c0 : w.cell? ⟨g, 0, none⟩ = some (.int .i64 a)) (c1 : w.cell? ⟨g, 1, none⟩ = some (.int .i64 b)) : Calls Tryz.prog 68 #[.pointer (some ⟨g, 0, none⟩)] w fun e w' => e = .returned (.bool (okGrid a b)) ∧ w' = w := by
  unfold okGrid
  have H := keep (fun n w => l00In_any n 4 16 w)
  cases h : (decide (4 ≤ a) && decide (a ≤ 16))
  all_goals
    have h1 := H.out a
    rw [h] at h1
    have H1 := keep h1
    clear h1 h
    go_enter Tryz.func68, Tryz.ntmps68
    go_wp2_with fail
    refine (H1.out _).mono ?_
    rintro e w' ⟨rfl, rfl⟩
    go_wp2_with fail
  · go_ret
    exact ⟨by simp, rfl⟩
  · refine (H.out _ _).mono ?_
    rintro e w' ⟨rfl, rfl⟩
    go_wp2_with fail
    go_ret
    exact ⟨by simp, rfl⟩

set_option maxHeartbeats 1000000 in
theorem notValid_any (a b c d q m : Nat) (w : World) : Calls Tryz.prog 59 #[.agg #[.complex .f32 a b, .complex .f32 c d, .float .f32 q, .float .f32 m]] w fun e w' => e = .returned (.bool (!validP a b c d q m)) ∧ Below w.heap.size w w' := by
  have H := keep (fun w => ValidParticle_any a b c d q m w)
  go_enter Tryz.func59, Tryz.ntmps59
  go_wp2_with fail
  refine (H.out _).mono ?_
  rintro e w' ⟨rfl, hb⟩
  have hb2 := ((Below.refl w.heap.size w).alloc (Nat.le_refl _) (.cells #[.complex .f32 a b, .complex .f32 c d, .float .f32 q, .float .f32 m] 43)).trans (hb.mono (by simp))
  go_wp2_with fail
  go_ret
  exact ⟨rfl, hb2⟩

set_option maxHeartbeats 1000000 in
set_option maxRecDepth 20000 in
theorem IndexFunc_ok (B : Nat) (v : Value) (ps : List PD) (w : World) (hown : w.ownsRow B 43 4 v ps.length (psCells ps)) (hok : ps.all PD.ok = true) (hN : ps.length ≤ 1000000) :
    Calls Tryz.prog 79 #[v, .func (.func 59) #[] #[]] w fun e w' => e = .returned (.int .i64 (-1)) ∧ Below w.heap.size w w' := by
  obtain ⟨A, c, rfl, hA⟩ : ∃ A c, v = .slice A ps.length c ∧ (0 < ps.length → ∃ g, A = some ⟨g, 0, none⟩ ∧ g < w.heap.size ∧ ∀ j u, (psCells ps)[j]? = some u → w.cell? ⟨g, j, none⟩ = some u) := by
    rcases hown.2 with ⟨rfl, hn⟩ | ⟨g, cap, cur, rfl, _⟩
    · exact ⟨_, _, by rw [hn], fun h => by omega⟩
    · exact ⟨_, _, rfl, fun _ => ⟨g, rfl, (hown.lt g rfl).2, fun j u hu => owns_cell hown hu⟩⟩
  have HA := keep hA
  have HO := keep hok
  clear hown hA hok
  go_enter Tryz.func79, Tryz.ntmps79
  go_wp2_with fail
  go_loopw [8] (fun s wr => ∃ i : Nat, i ≤ ps.length ∧ s = .int .i64 i ∧ Below w.heap.size w wr) (fun s _ => ps.length - (intOf s).toNat)
  case atStart => exact ⟨0, Nat.zero_le _, rfl, Below.refl _ _⟩
  case round =>
    obtain ⟨i, hi, rfl, hb⟩ := hrel
    by_cases hlt : i < ps.length
    · obtain ⟨g, rfl, hg, hcell⟩ := HA.out (by omega)
      have hc2 : ∀ (j : Nat) (u : Value), j < 4 → ps[i].cells[j]? = some u → wr.cell? ⟨g, i * 4 + j, none⟩ = some u := fun j u hj hu => by
        rw [hb.cell (p := ⟨g, i * 4 + j, none⟩) hg]
        exact hcell _ _ (by rw [psCells_at _ i hlt j hj]; exact hu)
      have c0 : wr.cell? ⟨g, i * 4, none⟩ = some (.complex .f32 ps[i].a ps[i].b) := hc2 0 _ (by omega) rfl
      have c1 : wr.cell? ⟨g, i * 4 + 1, none⟩ = some (.complex .f32 ps[i].c ps[i].d) := hc2 1 _ (by omega) rfl
      have c2 : wr.cell? ⟨g, i * 4 + 2, none⟩ = some (.float .f32 ps[i].q) := hc2 2 _ (by omega) rfl
      have c3 : wr.cell? ⟨g, i * 4 + 3, none⟩ = some (.float .f32 ps[i].m) := hc2 3 _ (by omega) rfl
      have hoki : ps[i].ok = true := List.all_eq_true.1 HO.out _ (List.getElem_mem hlt)
      have hE := notValid_any ps[i].a ps[i].b ps[i].c ps[i].d ps[i].q ps[i].m wr
      rw [show validP ps[i].a ps[i].b ps[i].c ps[i].d ps[i].q ps[i].m = true from hoki] at hE
      have HE := keep hE
      clear hE hoki hc2 hcell HA HO
      generalize ps[i] = p at *
      go_wp2_with fail
      refine HE.out.mono ?_
      rintro e w2 ⟨rfl, hb2⟩
      have HB := keep (hb.trans (hb2.mono hb.size))
      clear c0 c1 c2 c3 hb2
      go_wp2_with fail
      refine ⟨⟨i + 1, by omega, by go_num, HB.out⟩, by simp [intOf]; omega⟩
    · obtain rfl : i = ps.length := by omega
      go_wp2_with fail
      go_ret
      exact ⟨rfl, hb⟩

set_option maxHeartbeats 1000000 in
theorem AreParticles_ok (B : Nat) (v : Value) (ps : List PD) (w : World) (hown : w.ownsRow B 43 4 v ps.length (psCells ps)) (hok : ps.all PD.ok = true) (hN : ps.length ≤ 64) :
    Calls Tryz.prog 35 #[v] w fun e w' => e = .returned (.bool true) ∧ Below w.heap.size w w' := by
  have H := keep (IndexFunc_ok B v ps w hown hok (by omega))
  have hC : Calls Tryz.prog 58 #[v, .func (.func 59) #[] #[]] w fun e w' => e = .returned (.bool false) ∧ Below w.heap.size w w' := by
    clear hown hok
    go_enter Tryz.func58, Tryz.ntmps58
    go_wp2_with fail
    refine H.out.mono ?_
    rintro e w' ⟨rfl, hb⟩
    go_wp2_with fail
    go_ret
    exact ⟨rfl, hb⟩
  obtain ⟨A, c, rfl⟩ : ∃ A c, v = .slice A ps.length c := by
    rcases hown.2 with ⟨rfl, hn⟩ | ⟨g, cap, cur, rfl, _⟩
    · exact ⟨_, _, by rw [hn]⟩
    · exact ⟨_, _, rfl⟩
  have HC := keep hC
  have hd : decide ((ps.length : Int) ≤ 64) = true := by simp; omega
  clear hC H hown hok hN
  go_enter Tryz.func35, Tryz.ntmps35
  go_wp2_with fail
  refine HC.out.mono ?_
  rintro e w' ⟨rfl, hb⟩
  go_wp2_with fail
  go_ret
  exact ⟨rfl, hb⟩
end Go.Proofs.YtdkjaffnkgbcnaaGreatDoor
