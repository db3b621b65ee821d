/- The laws' helper for equality of slices of clouds. -/
import Derived.Test.YtafaabhnkjjkcaaSc0
import Derived.Lib.QuietBelow
namespace Go.Proofs.Ytafaabhnkjjkcaa
open Go.RowKit Go.Sort

set_option maxHeartbeats 4000000 in
set_option maxRecDepth 20000 in
theorem eqCloudS_any (B1 B2 : Nat) (v1 v2 : Value) (xs ys : List (CD × Value)) (w : World) (h1 : OwnS w B1 v1 xs) (h2 : OwnS w B2 v2 ys) (he : xs.map (·.1) = ys.map (·.1)) (hf : ∀ x ∈ xs, x.1.fin = true ∧ x.1.ps.length ≤ 48) (hN : xs.length ≤ 8) :
    Calls Try.prog 50 #[v1, v2] w fun e w' => e = .returned (.bool true) ∧ Below w.heap.size w w' := by
  have hlen : xs.length = ys.length := by have := congrArg List.length he; simpa using this
  obtain ⟨a1, c1, rfl⟩ := owns_slice h1.row
  obtain ⟨a2, c2, rfl⟩ := owns_slice h2.row
  have hd : ((xs.length : Int) != (ys.length : Int)) = false := by rw [bne_eq_false_iff_eq]; omega
  have H1 := keep h1
  have H2 := keep h2
  have HE := keep he
  have HF := keep hf
  have HL := keep hlen
  clear h1 h2 he hf hlen
  go_enter Try.func50, Try.ntmps50
  go_wp2_with fail
  go_loopw [5] (fun s wr => ∃ i : Nat, i ≤ xs.length ∧ s = .int .i64 i ∧ Below w.heap.size w wr) (fun s _ => xs.length - (intOf s).toNat)
  case atStart => exact ⟨0, Nat.zero_le _, rfl, Below.refl _ _⟩
  case round =>
    obtain ⟨i, hi, rfl, hb⟩ := hrel
    by_cases hlt : i < xs.length
    · have hl := HL.out
      have hlt2 : i < ys.length := by omega
      obtain ⟨g1, rfl, _, l1⟩ := owns_at H1.out.row (by omega)
      obtain ⟨g2, rfl, _, l2⟩ := owns_at H2.out.row (by omega)
      have hxy : xs[i].1 = ys[i].1 := by
        have h := congrArg (·[i]?) HE.out
        simp only [List.getElem?_map, List.getElem?_eq_getElem hlt, List.getElem?_eq_getElem hlt2, Option.map_some, Option.some.injEq] at h
        exact h
      have cell1 : ∀ j u, j < 5 → (xs[i].1.vals xs[i].2)[j]? = some u → wr.cell? ⟨g1, i * 5 + j, none⟩ = some u := fun j u hj hu => by
        rw [hb.cell (p := ⟨g1, i * 5 + j, none⟩) l1]
        exact owns5_cell H1.out.row (by rw [cCells_at xs i hlt j hj]; exact hu)
      have cell2 : ∀ j u, j < 5 → (ys[i].1.vals ys[i].2)[j]? = some u → wr.cell? ⟨g2, i * 5 + j, none⟩ = some u := fun j u hj hu => by
        rw [hb.cell (p := ⟨g2, i * 5 + j, none⟩) l2]
        exact owns5_cell H2.out.row (by rw [cCells_at ys i hlt2 j hj]; exact hu)
      have E1 := owns_below (H1.out.each i hlt) (hb.mono (Nat.le_refl _))
      have E2 := owns_below (H2.out.each i hlt2) (hb.mono (Nat.le_refl _))
      obtain ⟨f1, f2⟩ := HF.out xs[i] (List.getElem_mem hlt)
      rw [← hxy] at E2 cell2
      generalize xs[i].2 = u1 at *
      generalize ys[i].2 = u2 at *
      generalize xs[i].1 = cd at *
      have a0 : wr.cell? ⟨g1, i * 5, none⟩ = some (.int .i64 cd.wd) := cell1 0 _ (by omega) rfl
      have a1 : wr.cell? ⟨g1, i * 5 + 1, none⟩ = some (.int .i64 cd.hg) := cell1 1 _ (by omega) rfl
      have a2 : wr.cell? ⟨g1, i * 5 + 2, none⟩ = some u1 := cell1 2 _ (by omega) rfl
      have a3 : wr.cell? ⟨g1, i * 5 + 3, none⟩ = some (.float .f32 cd.mg) := cell1 3 _ (by omega) rfl
      have a4 : wr.cell? ⟨g1, i * 5 + 4, none⟩ = some (.float .f32 cd.bk) := cell1 4 _ (by omega) rfl
      have b0 : wr.cell? ⟨g2, i * 5, none⟩ = some (.int .i64 cd.wd) := cell2 0 _ (by omega) rfl
      have b1 : wr.cell? ⟨g2, i * 5 + 1, none⟩ = some (.int .i64 cd.hg) := cell2 1 _ (by omega) rfl
      have b2 : wr.cell? ⟨g2, i * 5 + 2, none⟩ = some u2 := cell2 2 _ (by omega) rfl
      have b3 : wr.cell? ⟨g2, i * 5 + 3, none⟩ = some (.float .f32 cd.mg) := cell2 3 _ (by omega) rfl
      have b4 : wr.cell? ⟨g2, i * 5 + 4, none⟩ = some (.float .f32 cd.bk) := cell2 4 _ (by omega) rfl
      unfold CD.fin at f1
      simp only [Bool.and_eq_true] at f1
      have R1 := keep (fun d os => owns_below E1 (below_regrown wr d os))
      have R2 := keep (fun d os => owns_below E2 (below_regrown wr d os))
      have EC := fun d os => Calls.regrown_of (eqCloud_any B1 B2 u1 u2 cd.ps cd.wd cd.hg cd.mg cd.bk (grow (redrawn wr d) os) (R1.out d os) (R2.out d os) f1.1 (by omega) f1.2.1 f1.2.2)
      unfold cloudV at EC
      have HC := keep EC
      have hkk : (0 : Int) ≤ (i : Int) := by omega
      have hkl : (i : Int) < (xs.length : Int) := by omega
      have hkl2 : (i : Int) < (ys.length : Int) := by omega
      clear cell1 cell2 E1 E2 f1 f2 EC hxy
      have a0 := cell_regrown a0
      have a1 := cell_regrown a1
      have a2 := cell_regrown a2
      have a3 := cell_regrown a3
      have a4 := cell_regrown a4
      have b0 := cell_regrown b0
      have b1 := cell_regrown b1
      have b2 := cell_regrown b2
      have b3 := cell_regrown b3
      have b4 := cell_regrown b4
      go_wp2_with fail
      refine wp_region_quiet_below (by as_aux_lemma => kernel_rfl) (by as_aux_lemma => kernel_rfl) ?_
      repeat (any_goals (go_big_quiet_step (with_reducible exact HC.out _ _)))
      refine wpQuiet_nil ?_
      intro w2 hw2
      obtain ⟨⟨d2, os2⟩, rfl⟩ := hw2
      have hb2 := below_regrown wr d2 os2
      generalize grow (redrawn wr d2) os2 = w2 at *
      clear a0 a1 a2 a3 a4 b0 b1 b2 b3 b4
      go_wp2_with fail
      refine ⟨⟨i + 1, by omega, by go_num, hb.trans (hb2.mono hb.size)⟩, by simp [intOf]; omega⟩
    · have hl := HL.out
      have hi2 : ¬ i < ys.length := by omega
      obtain rfl : i = xs.length := by omega
      go_wp2_with fail
      go_ret
      exact ⟨rfl, hb⟩
end Go.Proofs.Ytafaabhnkjjkcaa
