/- Contracts: fields scaled, added. -/
import Derived.Test.YtmnpijhnfdiomaaMc
namespace Go.Proofs.Ytmnpijhnfdiomaa
open Go.RowKit Go.Sort Ieee
set_option linter.unusedSimpArgs false

def CurF (k : Nat) (cur : Array Value) (l : List Int) : Prop := l.length ≤ cur.size ∧ ∀ i (h : i < l.length), cur[i]? = some (.float .f32 (wd single k l[i]))
theorem CurF.start {k : Nat} {cur : Array Value} {fs : List Int} (hs : fs.length ≤ cur.size) (h : cur.toList.take fs.length = fList k fs) : CurF k cur fs := by
  refine ⟨hs, fun i hi => ?_⟩
  rw [← fList_at k fs i hi, ← h, List.getElem?_take_of_lt hi, Array.getElem?_toList]
theorem CurF.step {k : Nat} {cur : Array Value} {l : List Int} (h : CurF k cur l) (j : Nat) (hj : j < l.length) (n : Int) : CurF k (cur.setIfInBounds j (.float .f32 (wd single k n))) (l.set j n) := by
  refine ⟨by rw [List.length_set]; simpa using h.1, fun i hi => ?_⟩
  rw [List.length_set] at hi
  by_cases e : i = j
  · subst e
    rw [Array.getElem?_setIfInBounds_self_of_lt (by have := h.1; omega), List.getElem_set_self]
  · rw [Array.getElem?_setIfInBounds_ne (by omega), List.getElem_set_ne (by omega)]
    exact h.2 i hi
theorem CurF.fld {w : World} {g k : Nat} {cur : Array Value} {l : List Int} (h : CurF k cur l) (hh : Has w g 33 cur) : FldAt w g k l := ⟨hh.in_heap, fun i hi => (hh.cells i).trans (h.2 i hi)⟩
/-- The first j of a list are another list's. -/
def mixL (out fs : List Int) (j : Nat) : List Int := out.take j ++ fs.drop j
theorem mixL_length (out fs : List Int) (j : Nat) (h : out.length = fs.length) (hj : j ≤ fs.length) : (mixL out fs j).length = fs.length := by
  unfold mixL; rw [List.length_append, List.length_take, List.length_drop]; omega
theorem mixL_step (out fs : List Int) (j : Nat) (h : out.length = fs.length) (hj : j < fs.length) : (mixL out fs j).set j (out[j]'(by omega)) = mixL out fs (j + 1) := by
  unfold mixL
  have ht : (out.take j).length = j := by rw [List.length_take]; omega
  rw [List.set_append_right _ _ (by omega), ht, Nat.sub_self, List.drop_eq_getElem_cons hj, List.set_cons_zero, List.take_succ_eq_append_getElem (by omega), List.append_assoc]
  rfl
theorem mixL_at (out fs : List Int) (j : Nat) (h : out.length = fs.length) (hj : j < fs.length) : (mixL out fs j)[j]'(by rw [mixL_length out fs j h (by omega)]; exact hj) = fs[j] := by
  unfold mixL
  have ht : (out.take j).length = j := by rw [List.length_take]; omega
  rw [List.getElem_append_right (by omega)]
  simp only [ht, Nat.sub_self, List.getElem_drop, Nat.add_zero]
theorem mixL_zero (out fs : List Int) : mixL out fs 0 = fs := by unfold mixL; simp
theorem mixL_full (out fs : List Int) (h : out.length = fs.length) : mixL out fs fs.length = out := by unfold mixL; rw [List.drop_length, List.append_nil, ← h, List.take_length]

theorem fmul_pos {k l : Nat} {a b : Int} (hk : k ≤ 50) (hl : l ≤ 50) (hb : 0 < b) (ha2 : a.natAbs < 16777216) (hb2 : b.natAbs < 16777216) (hn : (a * b).natAbs < 16777216) : floatBits .mul .f32 (wd single k a) (wd single l b) = some (wd single (k + l) (a * b)) := by
  by_cases h0 : a = 0
  · subst h0
    exact fmul (Int.le_refl 0) (by omega) (by omega) (by omega) (by omega) hb2 hn
  · obtain ⟨r, e, hr, hrl⟩ := mul_is (f := single) fit_single binade_le_single (k := k) (l := l) (a := a) (b := b) (by show k + 23 ≤ 149; omega) (by show l + 23 ≤ 149; omega) (by show k + l + 23 ≤ 149; omega) ha2 hb2 hn
    rw [show floatBits .mul .f32 (wd single k a) (wd single l b) = single.mul (wd single k a) (wd single l b) from rfl, e, hr.unique binade_le_single hrl (fun e => by rcases Int.mul_eq_zero.1 e with h | h <;> omega)]
theorem fmul_pos' {k l : Nat} {a b : Int} (hk : k ≤ 50) (hl : l ≤ 50) (hb : 0 < b) (ha2 : a.natAbs < 16777216) (hb2 : b.natAbs < 16777216) (hn : (b * a).natAbs < 16777216) : floatBits .mul .f32 (wd single l b) (wd single k a) = some (wd single (l + k) (b * a)) := by
  by_cases h0 : a = 0
  · subst h0
    exact fmul (by omega) (Int.le_refl 0) (by omega) (by omega) hb2 (by omega) hn
  · obtain ⟨r, e, hr, hrl⟩ := mul_is (f := single) fit_single binade_le_single (k := l) (l := k) (a := b) (b := a) (by show l + 23 ≤ 149; omega) (by show k + 23 ≤ 149; omega) (by show l + k + 23 ≤ 149; omega) hb2 ha2 hn
    rw [show floatBits .mul .f32 (wd single l b) (wd single k a) = single.mul (wd single l b) (wd single k a) from rfl, e, hr.unique binade_le_single hrl (fun e => by rcases Int.mul_eq_zero.1 e with h | h <;> omega)]
def dbl (fs : List Int) : List Int := fs.map fun n => 2 * n
theorem dbl_length (fs : List Int) : (dbl fs).length = fs.length := List.length_map _
theorem dbl_at (fs : List Int) (j : Nat) (h : j < fs.length) : (dbl fs)[j]'(by rw [dbl_length]; exact h) = 2 * fs[j] := by unfold dbl; rw [List.getElem_map]
theorem Small.dbl {fs : List Int} {M : Nat} (h : Small fs M) : Small (dbl fs) (2 * M) := by
  intro n hn
  obtain ⟨x, hx, rfl⟩ := List.mem_map.1 hn
  have := h x hx
  omega
theorem two_word2 : (1073741824 : Nat) = wd single 0 2 := two_word

set_option maxHeartbeats 4000000 in
set_option maxRecDepth 20000 in
theorem scaled_ok (k : Nat) (hk : k ≤ 30) (g c : Nat) (fs : List Int) (M : Nat) (hM : Small fs M) (hM2 : M ≤ 100000) (hp : 0 < fs.length) (hN : fs.length ≤ 1000) (w : World) (hh : FldAt w g k fs) :
    Calls Try.prog 76 #[.slice (some ⟨g, 0, none⟩) fs.length c, .float .f32 1073741824] w fun e w' => ∃ g2 d : Nat, e = .returned (.slice (some ⟨g2, 0, none⟩) fs.length d) ∧ FldAt w' g2 k (dbl fs) ∧ Below w.heap.size w w' := by
  have CL := keep (CloneF_ok k g c fs w hh hp hN)
  have HM := keep hM
  have MS := keep (fun j hj => mixL_step (dbl fs) fs j (dbl_length fs) hj)
  have MA := keep (fun j hj => mixL_at (dbl fs) fs j (dbl_length fs) hj)
  have ML := keep (fun j hj => mixL_length (dbl fs) fs j (dbl_length fs) hj)
  have MF := keep (mixL_full (dbl fs) fs (dbl_length fs))
  have DA := keep (fun j hj => dbl_at fs j hj)
  have MZ := mixL_zero (dbl fs) fs
  clear hh hM
  go_enter Try.func76, Try.ntmps76
  go_wp2_with fail
  refine CL.out.mono ?_
  rintro e w1 ⟨g2, d, cur, rfl, hB, hg2, hs, hd, ht, hb⟩
  have C1 := CurF.start hs ht
  rw [← MZ] at C1
  have C1 := keep C1
  have G1 := keep hg2
  have B1 := keep hb
  clear hg2 hs ht hb CL MZ
  go_wp2_with fail
  go_loopw [11] (fun s wr => ∃ (j : Nat) (cur : Array Value), j ≤ fs.length ∧ s = .int .i64 j ∧ Kept (Has wr g2 33 cur) ∧ Kept (CurF k cur (mixL (dbl fs) fs j)) ∧ Kept (Below w.heap.size w wr)) (fun s _ => fs.length - (intOf s).toNat)
  case atStart => exact ⟨0, cur, Nat.zero_le _, rfl, G1, C1, B1⟩
  case round =>
    clear G1 C1 B1
    obtain ⟨j, cur2, hj, rfl, hg, hc, hb⟩ := hrel
    by_cases hlt : j < fs.length
    · have ml := ML.out j hj
      have z1 := (hg.out.cells j).trans (hc.out.2 j (by omega))
      rw [MA.out j hlt] at z1
      have u1 := hg.out.free j
      have b1 := HM.out fs[j] (List.getElem_mem hlt)
      have cs := keep (hc.out.step j (by omega) ((dbl fs)[j]'(by rw [dbl_length]; exact hlt)))
      rw [MS.out j hlt, DA.out j hlt] at cs
      generalize fs[j] = n at *
      have m1 := fmul_pos (k := k) (l := 0) (a := n) (b := 2) (by omega) (by omega) (by omega) (by omega) (by omega) (by omega)
      rw [← two_word2, Nat.add_zero, Int.mul_comm] at m1
      have f1 := frun m1
      have lg := hg.out.in_heap
      clear m1 b1 ml
      go_wp2_with fail
      go_roundw
      case rel => exact ⟨j + 1, _, by omega, by go_num, keep (hg.out.written j _), cs, keep (hb.out.setCell (p := ⟨g2, j, none⟩) hB _)⟩
      case measure => simp [intOf]; omega
    · obtain rfl : j = fs.length := by omega
      have hf := hc.out.fld hg.out
      rw [MF.out] at hf
      have HF := keep hf
      clear hf
      go_wp2_with fail
      go_ret
      exact ⟨g2, d, rfl, HF.out, hb.out⟩

set_option maxHeartbeats 2000000 in
theorem ScaleField_ok (W H : Nat) (h : Sides W H) (k : Nat) (hk : k ≤ 30) (g c : Nat) (fs : List Int) (hl : fs.length = W * H) (M : Nat) (hM : Small fs M) (hM2 : M ≤ 100000) (w : World) (hh : FldAt w g k fs) :
    Calls Try.prog 41 #[gridV W H, .slice (some ⟨g, 0, none⟩) (W * H) c, .float .f32 1073741824] w fun e w' => ∃ g2 d : Nat, e = .returned (.tuple #[.slice (some ⟨g2, 0, none⟩) (W * H) d, .bool true]) ∧ FldAt w' g2 k (dbl fs) ∧ Below w.heap.size w w' := by
  have SL := size_le W H h
  have IF := keep (fun w => IsField_ok W H h (some ⟨g, 0, none⟩) c w)
  have SC := fun w hh => scaled_ok k hk g c fs M hM hM2 (by omega) (by omega) w hh
  rw [hl] at SC
  have SC := keep SC
  have B0 := keep ((Below.refl w.heap.size w).alloc (Nat.le_refl _) (.cells #[.int .i64 W, .int .i64 H] 25))
  have H0 := keep (hh.beside (.cells #[.int .i64 W, .int .i64 H] 25))
  generalize W * H = n at *
  clear h hh hM
  unfold gridV at *
  go_enter Try.func41, Try.ntmps41
  go_wp2_with fail
  refine (IF.out _).mono ?_
  rintro e w1 ⟨rfl, hb⟩
  have H1 := keep (H0.out.after hb)
  have B1 := keep (B0.out.trans (hb.mono B0.out.size))
  clear hb H0 B0 IF
  go_wp2_with fail
  refine (SC.out _ H1.out).mono ?_
  rintro e w2 ⟨g2, d, rfl, hf, hb⟩
  have F2 := keep hf
  have B2 := keep (B1.out.trans (hb.mono B1.out.size))
  clear hb hf H1 B1 SC
  go_wp2_with fail
  go_ret2
  exact ⟨g2, d, rfl, F2.out, B2.out⟩

set_option maxHeartbeats 4000000 in
set_option maxRecDepth 20000 in
theorem AddFields_ok (W H : Nat) (h : Sides W H) (k : Nat) (hk : k ≤ 30) (g c : Nat) (fs : List Int) (hl : fs.length = W * H) (M : Nat) (hM : Small fs M) (hM2 : M ≤ 100000) (w : World) (hh : FldAt w g k fs) :
    Calls Try.prog 42 #[gridV W H, .slice (some ⟨g, 0, none⟩) (W * H) c, .slice (some ⟨g, 0, none⟩) (W * H) c] w fun e w' => ∃ g2 d : Nat, e = .returned (.tuple #[.slice (some ⟨g2, 0, none⟩) (W * H) d, .bool true]) ∧ FldAt w' g2 k (dbl fs) ∧ Below w.heap.size w w' := by
  have SL := size_le W H h
  have IF := keep (fun w => IsField_ok W H h (some ⟨g, 0, none⟩) c w)
  have CL := keep (fun w hh => CloneF_ok k g c fs w hh (by omega) (by omega))
  have HM := keep hM
  have MS := keep (fun j hj => mixL_step (dbl fs) fs j (dbl_length fs) hj)
  have MA := keep (fun j hj => mixL_at (dbl fs) fs j (dbl_length fs) hj)
  have ML := keep (fun j hj => mixL_length (dbl fs) fs j (dbl_length fs) hj)
  have MF := keep (mixL_full (dbl fs) fs (dbl_length fs))
  have DA := keep (fun j hj => dbl_at fs j hj)
  have MZ := mixL_zero (dbl fs) fs
  have B0 := keep ((Below.refl w.heap.size w).alloc (Nat.le_refl _) (.cells #[.int .i64 W, .int .i64 H] 25))
  have H0 := keep (hh.beside (.cells #[.int .i64 W, .int .i64 H] 25))
  have P := keep (Has.made w 25 #[.int .i64 W, .int .i64 H])
  rw [← hl] at *
  clear h hh hM
  unfold gridV at *
  go_enter Try.func42, Try.ntmps42
  go_wp2_with fail
  refine (IF.out _).mono ?_
  rintro e w1 ⟨rfl, hb⟩
  have p1 := P.out.after hb
  have cg := p1.cells
  have H1 := keep (H0.out.after hb)
  have B1 := keep (B0.out.trans (hb.mono B0.out.size))
  clear hb H0 B0 P p1
  go_wp2_with fail
  refine (IF.out _).mono ?_
  rintro e w2 ⟨rfl, hb⟩
  have H2 := keep (H1.out.after hb)
  have B2 := keep (B1.out.trans (hb.mono B1.out.size))
  clear hb H1 B1 IF cg
  go_wp2_with fail
  refine (CL.out _ H2.out).mono ?_
  rintro e w3 ⟨g2, d, cur, rfl, hB, hg2, hs, hd, ht, hb⟩
  have C3 := CurF.start hs ht
  rw [← MZ] at C3
  have C3 := keep C3
  have G3 := keep hg2
  have H3 := H2.out.after hb
  have B3 := keep (B2.out.trans (hb.mono B2.out.size))
  have hB2 : w.heap.size ≤ g2 := Nat.le_trans B2.out.size hB
  have hgg : g ≠ g2 := Nat.ne_of_lt (Nat.lt_of_lt_of_le H2.out.1 hB)
  have H3 := keep H3
  clear hg2 hs ht hb CL MZ H2 B2
  go_wp2_with fail
  go_loopw [25] (fun s wr => ∃ (j : Nat) (cur : Array Value), j ≤ fs.length ∧ s = .int .i64 j ∧ Kept (Has wr g2 33 cur) ∧ Kept (FldAt wr g k fs) ∧ Kept (CurF k cur (mixL (dbl fs) fs j)) ∧ Kept (Below w.heap.size w wr)) (fun s _ => fs.length - (intOf s).toNat)
  case atStart => exact ⟨0, cur, Nat.zero_le _, rfl, G3, H3, C3, B3⟩
  case round =>
    clear G3 C3 B3 H3
    obtain ⟨j, cur2, hj, rfl, hg, hf, hc, hb⟩ := hrel
    by_cases hlt : j < fs.length
    · have ml := ML.out j hj
      have z1 := (hg.out.cells j).trans (hc.out.2 j (by omega))
      rw [MA.out j hlt] at z1
      have z2 := hf.out.2 j hlt
      have u1 := hg.out.free j
      have b1 := HM.out fs[j] (List.getElem_mem hlt)
      have cs := keep (hc.out.step j (by omega) ((dbl fs)[j]'(by rw [dbl_length]; exact hlt)))
      rw [MS.out j hlt, DA.out j hlt] at cs
      generalize fs[j] = n at *
      have m1 := fadd (k := k) (a := n) (b := n) (by omega) (by omega) (by omega) (by omega)
      rw [show n + n = 2 * n by omega] at m1
      have f1 := frun m1
      have lg := hg.out.in_heap
      have lf := hf.out.1
      have HF := keep (fun u => (⟨by simpa [World.setCell] using lf, fun i hi => (World.cell?_setCell_far wr ⟨g2, j, none⟩ ⟨g, i, none⟩ u (fun e => hgg e.symm)).trans (hf.out.2 i hi)⟩ : FldAt (wr.setCell ⟨g2, j, none⟩ u) g k fs))
      clear m1 b1 ml
      go_wp2_with fail
      go_roundw
      case rel => exact ⟨j + 1, _, by omega, by go_num, keep (hg.out.written j _), keep (HF.out _), cs, keep (hb.out.setCell (p := ⟨g2, j, none⟩) hB2 _)⟩
      case measure => simp [intOf]; omega
    · obtain rfl : j = fs.length := by omega
      have hf := hc.out.fld hg.out
      rw [MF.out] at hf
      have HF := keep hf
      clear hf
      go_wp2_with fail
      go_ret2
      exact ⟨g2, d, rfl, HF.out, hb.out⟩
end Go.Proofs.Ytmnpijhnfdiomaa
