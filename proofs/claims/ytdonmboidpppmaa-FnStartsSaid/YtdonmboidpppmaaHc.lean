/- Contracts: equal numbers, equal particles, equal lists of particles. -/
import Derived.Test.YtdonmboidpppmaaHb
import Derived.Lib.QuietBelow
namespace Go.Proofs.Ytdonmboidpppmaa
open Go.RowKit Go.Sort Ieee
set_option linter.unusedSimpArgs false

/-- A word that is a number: equal to itself. -/
def Num (z : Nat) : Prop := (z : Int) < 4294967296 ∧ FloatKind.f32.format.order z z = some .eq
theorem num_wd (k : Nat) (a : Int) (hk : k ≤ 100) (ha : a.natAbs < 16777216) : Num (wd single k a) := ⟨wd32_lt k a, order_wd_self k a hk ha⟩
theorem num_negz : Num 2147483648 := ⟨by decide, by decide +kernel⟩

set_option maxHeartbeats 1000000 in
set_option maxRecDepth 20000 in
theorem BitsOf_num (z : Nat) (h : Num z) (w : World) : Calls Try.prog 74 #[.float .f32 z] w fun e w' => e = .returned (.int .i64 z) ∧ w' = w := by
  obtain ⟨hl, ho⟩ := h
  have hw : IntKind.i64.wrap (z : Int) = z := IntWalk.i64_in _ ⟨by omega, by omega⟩
  have hr := run_bits
  clear hl
  go_enter Try.func74, Try.ntmps74
  go_wp2
  go_ret
  exact ⟨rfl, rfl⟩

set_option maxHeartbeats 1000000 in
theorem SameNumber_num (z : Nat) (h : Num z) (w : World) : Calls Try.prog 50 #[.float .f32 z, .float .f32 z] w fun e w' => e = .returned (.bool true) ∧ w' = w := by
  have B := keep (fun w => BitsOf_num z h w)
  clear h
  have hz : ((z : Int) == (z : Int)) = true := by simp
  go_enter Try.func50, Try.ntmps50
  go_wp2_with (go_at_call 74; refine (B.out _).mono ?_; rintro e w' ⟨rfl, rfl⟩)
  go_ret
  exact ⟨rfl, rfl⟩

set_option maxHeartbeats 1000000 in
theorem SameComplex_num (x y : Nat) (hx : Num x) (hy : Num y) (w : World) : Calls Try.prog 14 #[.complex .f32 x y, .complex .f32 x y] w fun e w' => e = .returned (.bool true) ∧ w' = w := by
  have A := keep (fun w => SameNumber_num x hx w)
  have B := keep (fun w => SameNumber_num y hy w)
  clear hx hy
  go_enter Try.func14, Try.ntmps14
  go_wp2_with fail
  refine (A.out _).mono ?_
  rintro e w' ⟨rfl, rfl⟩
  go_wp2_with fail
  refine (B.out _).mono ?_
  rintro e w' ⟨rfl, rfl⟩
  go_wp2_with fail
  go_ret
  exact ⟨rfl, rfl⟩

def PD.num (p : PD) : Prop := Num p.a ∧ Num p.b ∧ Num p.c ∧ Num p.d ∧ Num p.q ∧ Num p.m
def PD.agg (p : PD) : Value := .agg #[.complex .f32 p.a p.b, .complex .f32 p.c p.d, .float .f32 p.q, .float .f32 p.m]

set_option maxHeartbeats 2000000 in
set_option maxRecDepth 20000 in
theorem sameOne_ok (p : PD) (h : p.num) (w : World) : Calls Try.prog 57 #[p.agg, p.agg] w fun e w' => e = .returned (.bool true) ∧ w' = ((w.alloc (.cells #[.complex .f32 p.a p.b, .complex .f32 p.c p.d, .float .f32 p.q, .float .f32 p.m] 41)).alloc (.cells #[.complex .f32 p.a p.b, .complex .f32 p.c p.d, .float .f32 p.q, .float .f32 p.m] 41)) := by
  obtain ⟨h1, h2, h3, h4, h5, h6⟩ := h
  have A := keep (fun w => SameComplex_num p.a p.b h1 h2 w)
  have B := keep (fun w => SameComplex_num p.c p.d h3 h4 w)
  have C := keep (fun w => SameNumber_num p.q h5 w)
  have D := keep (fun w => SameNumber_num p.m h6 w)
  clear h1 h2 h3 h4 h5 h6
  unfold PD.agg
  go_enter Try.func57, Try.ntmps57
  go_wp2_with fail
  refine (A.out _).mono ?_
  rintro e w' ⟨rfl, rfl⟩
  go_wp2_with fail
  refine (B.out _).mono ?_
  rintro e w' ⟨rfl, rfl⟩
  go_wp2_with fail
  refine (C.out _).mono ?_
  rintro e w' ⟨rfl, rfl⟩
  go_wp2_with fail
  refine (D.out _).mono ?_
  rintro e w' ⟨rfl, rfl⟩
  go_wp2_with fail
  go_ret
  exact ⟨rfl, rfl⟩

theorem own_form {w : World} {B : Nat} {v : Value} {ps : List PD} (hown : w.ownsRow B 41 4 v ps.length (psCells ps)) : ∃ A c, v = .slice A ps.length c ∧ (0 < ps.length → ∃ g, A = some ⟨g, 0, none⟩ ∧ g < w.heap.size ∧ ∀ j u, (psCells ps)[j]? = some u → w.cell? ⟨g, j, none⟩ = some u) := by
  rcases hown.2 with ⟨rfl, hn⟩ | ⟨g, cap, cur, rfl, _⟩
  · exact ⟨_, _, by rw [hn], fun h => by omega⟩
  · exact ⟨_, _, rfl, fun _ => ⟨g, rfl, (hown.lt g rfl).2, fun j u hu => owns_cell hown hu⟩⟩

set_option maxHeartbeats 2000000 in
set_option maxRecDepth 20000 in
theorem EqualFunc_ok (B1 B2 : Nat) (v1 v2 : Value) (ps : List PD) (w : World) (h1 : w.ownsRow B1 41 4 v1 ps.length (psCells ps)) (h2 : w.ownsRow B2 41 4 v2 ps.length (psCells ps)) (hn : ∀ p ∈ ps, p.num) (hN : ps.length ≤ 1000000) :
    Calls Try.prog 56 #[v1, v2, .func (.func 57) #[] #[]] w fun e w' => e = .returned (.bool true) ∧ Below w.heap.size w w' := by
  obtain ⟨A, c, rfl, hA⟩ := own_form h1
  obtain ⟨D, d, rfl, hD⟩ := own_form h2
  have HA := keep hA
  have HD := keep hD
  have HO := keep hn
  clear h1 h2 hA hD hn
  go_enter Try.func56, Try.ntmps56
  go_wp2_with fail
  go_loopw [17] (fun s wr => ∃ i : Nat, i ≤ ps.length ∧ s = .int .i64 i ∧ Below w.heap.size w wr) (fun s _ => ps.length - (intOf s).toNat)
  case atStart => exact ⟨0, Nat.zero_le _, rfl, Below.refl _ _⟩
  case round =>
    obtain ⟨i, hi, rfl, hb⟩ := hrel
    by_cases hlt : i < ps.length
    · obtain ⟨g, rfl, hg, hcell⟩ := HA.out (by omega)
      obtain ⟨g2, rfl, hg2, hcell2⟩ := HD.out (by omega)
      have hc2 : ∀ (j : Nat) (u : Value), j < 4 → ps[i].cells[j]? = some u → wr.cell? ⟨g, i * 4 + j, none⟩ = some u := fun j u hj hu => by
        rw [hb.cell (p := ⟨g, i * 4 + j, none⟩) hg]
        exact hcell _ _ (by rw [psCells_at _ i hlt j hj]; exact hu)
      have hc3 : ∀ (j : Nat) (u : Value), j < 4 → ps[i].cells[j]? = some u → wr.cell? ⟨g2, i * 4 + j, none⟩ = some u := fun j u hj hu => by
        rw [hb.cell (p := ⟨g2, i * 4 + j, none⟩) hg2]
        exact hcell2 _ _ (by rw [psCells_at _ i hlt j hj]; exact hu)
      have c0 : wr.cell? ⟨g, i * 4, none⟩ = some (.complex .f32 ps[i].a ps[i].b) := hc2 0 _ (by omega) rfl
      have c1 : wr.cell? ⟨g, i * 4 + 1, none⟩ = some (.complex .f32 ps[i].c ps[i].d) := hc2 1 _ (by omega) rfl
      have c2 : wr.cell? ⟨g, i * 4 + 2, none⟩ = some (.float .f32 ps[i].q) := hc2 2 _ (by omega) rfl
      have c3 : wr.cell? ⟨g, i * 4 + 3, none⟩ = some (.float .f32 ps[i].m) := hc2 3 _ (by omega) rfl
      have d0 : wr.cell? ⟨g2, i * 4, none⟩ = some (.complex .f32 ps[i].a ps[i].b) := hc3 0 _ (by omega) rfl
      have d1 : wr.cell? ⟨g2, i * 4 + 1, none⟩ = some (.complex .f32 ps[i].c ps[i].d) := hc3 1 _ (by omega) rfl
      have d2 : wr.cell? ⟨g2, i * 4 + 2, none⟩ = some (.float .f32 ps[i].q) := hc3 2 _ (by omega) rfl
      have d3 : wr.cell? ⟨g2, i * 4 + 3, none⟩ = some (.float .f32 ps[i].m) := hc3 3 _ (by omega) rfl
      have lg : g < wr.heap.size := Nat.lt_of_lt_of_le hg hb.size
      have lg2 : g2 < wr.heap.size := Nat.lt_of_lt_of_le hg2 hb.size
      have HE := keep (fun w => sameOne_ok ps[i] (HO.out _ (List.getElem_mem hlt)) w)
      unfold PD.agg at HE
      clear hc2 hcell hc3 hcell2 HA HD HO
      generalize ps[i] = p at *
      have hB := keep hb
      have hsz := hb.size
      clear hb
      go_wp2_with (go_at_call 57; refine (HE.out _).mono ?_; rintro e w2 ⟨rfl, rfl⟩)
      go_roundw
      case rel => exact ⟨i + 1, by omega, by go_num, hB.out.trans (by go_grown)⟩
      case measure => simp [intOf]; omega
    · obtain rfl : i = ps.length := by omega
      go_wp2_with fail
      go_ret
      exact ⟨rfl, hb⟩

set_option maxHeartbeats 1000000 in
theorem SameParticles_ok (B1 B2 : Nat) (v1 v2 : Value) (ps : List PD) (w : World) (h1 : w.ownsRow B1 41 4 v1 ps.length (psCells ps)) (h2 : w.ownsRow B2 41 4 v2 ps.length (psCells ps)) (hn : ∀ p ∈ ps, p.num) (hN : ps.length ≤ 1000000) :
    Calls Try.prog 26 #[v1, v2] w fun e w' => e = .returned (.bool true) ∧ Below w.heap.size w w' := by
  have H := keep (EqualFunc_ok B1 B2 v1 v2 ps w h1 h2 hn hN)
  clear h1 h2 hn
  go_enter Try.func26, Try.ntmps26
  go_wp2_with fail
  refine H.out.mono ?_
  rintro e w' ⟨rfl, hb⟩
  go_wp2_with fail
  go_ret
  exact ⟨rfl, hb⟩
end Go.Proofs.Ytdonmboidpppmaa
