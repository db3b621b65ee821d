/- Contracts: the charge of a list; a list without those outside. -/
import Derived.Test.YtnmdgbnophclnaaHd
namespace Go.Proofs.Ytnmdgbnophclnaa
open Go.RowKit Go.Sort Ieee
set_option linter.unusedSimpArgs false

def sumQ (gs : List GP) : Int := (gs.map GP.q).sum

theorem gown_form {w : World} {B : Nat} {v : Value} {gs : List GP} (h : w.ownsRow B 52 4 v gs.length (psCells (gs.map GP.pd))) :
    ∃ A c, v = .slice A gs.length c ∧ ∀ i (hi : i < gs.length), ∃ g, A = some ⟨g, 0, none⟩ ∧ g < w.heap.size ∧ w.cell? ⟨g, i * 4, none⟩ = some (.complex .f32 (wd single 3 gs[i].x) (wd single 3 gs[i].y)) ∧ w.cell? ⟨g, i * 4 + 1, none⟩ = some (.complex .f32 (wd single 3 gs[i].u) (wd single 3 gs[i].v)) ∧ w.cell? ⟨g, i * 4 + 2, none⟩ = some (.float .f32 (wd single 1 gs[i].q)) ∧ w.cell? ⟨g, i * 4 + 3, none⟩ = some (.float .f32 (wd single 2 gs[i].m)) := by
  obtain ⟨A, c, rfl, hA⟩ := own_form (ps := gs.map GP.pd) (by rw [List.length_map]; exact h)
  rw [List.length_map] at hA ⊢
  refine ⟨A, c, rfl, fun i hi => ?_⟩
  obtain ⟨g, rfl, hg, hc⟩ := hA (by omega)
  have hi' : i < (gs.map GP.pd).length := by rw [List.length_map]; exact hi
  have h4 : ∀ j u, j < 4 → gs[i].pd.cells[j]? = some u → w.cell? ⟨g, i * 4 + j, none⟩ = some u := fun j u hj hu => hc _ _ (by rw [psCells_at _ i hi' j hj, List.getElem_map]; exact hu)
  exact ⟨g, rfl, hg, h4 0 _ (by omega) rfl, h4 1 _ (by omega) rfl, h4 2 _ (by omega) rfl, h4 3 _ (by omega) rfl⟩

theorem sumQ_take (gs : List GP) (i : Nat) (h : i < gs.length) : sumQ (gs.take (i + 1)) = sumQ (gs.take i) + gs[i].q := by
  unfold sumQ
  rw [List.take_succ_eq_append_getElem h, List.map_append, List.sum_append]
  simp
theorem sumQ_bound (gs : List GP) (h : ∀ p ∈ gs, p.ok) : -(4 * (gs.length : Int)) ≤ sumQ gs ∧ sumQ gs ≤ 4 * (gs.length : Int) := by
  induction gs with
  | nil => simp [sumQ]
  | cons p gs ih =>
    have h1 := ih (fun q hq => h q (List.mem_cons_of_mem _ hq))
    obtain ⟨_, _, _, _, ⟨a, b⟩, _⟩ := h p (List.mem_cons_self ..)
    unfold sumQ at *
    simp only [List.map_cons, List.sum_cons, List.length_cons]
    omega

theorem Areg_ok (B : Nat) (v : Value) (gs : List GP) (w : World) (h : w.ownsRow B 52 4 v gs.length (psCells (gs.map GP.pd))) (hok : ∀ p ∈ gs, p.ok) (hN : gs.length ≤ 6) :
    Calls Try.prog 74 #[v] w fun e w' => e = .returned (.bool true) ∧ Below w.heap.size w w' :=
  AreParticles_ok B v (gs.map GP.pd) w (by rw [List.length_map]; exact h) (GP.all_ok gs hok) (by rw [List.length_map]; omega)

theorem filter_take (f : GP → Bool) (gs : List GP) (i : Nat) (h : i < gs.length) : (gs.take (i + 1)).filter f = (gs.take i).filter f ++ (if f gs[i] then [gs[i]] else []) := by
  rw [List.take_succ_eq_append_getElem h, List.filter_append]
  congr 1
  cases hf : f gs[i] <;> simp [hf]

/-- How a place lies to the walls. -/
theorem side_cases (L H : Int) (h : Walls L H) (p : GP) (hp : p.ok) :
    (isOut L H p = true ∧ FloatKind.f32.format.order (wd single 3 p.x) (wd single 3 L) = some .lt) ∨
    (isOut L H p = true ∧ (FloatKind.f32.format.order (wd single 3 p.x) (wd single 3 L) = some .gt) ∧ FloatKind.f32.format.order (wd single 3 p.x) (wd single 3 H) = some .gt) ∨
    (isOut L H p = false ∧ (FloatKind.f32.format.order (wd single 3 p.x) (wd single 3 L) = some .gt ∨ FloatKind.f32.format.order (wd single 3 p.x) (wd single 3 L) = some .eq) ∧ (FloatKind.f32.format.order (wd single 3 p.x) (wd single 3 H) = some .lt ∨ FloatKind.f32.format.order (wd single 3 p.x) (wd single 3 H) = some .eq)) := by
  obtain ⟨h0, h1, h2⟩ := h
  obtain ⟨⟨x0, x1⟩, _⟩ := hp
  have oL := forder (k := 3) (a := p.x) (b := L) (by omega) (by omega) (by omega)
  have oH := forder (k := 3) (a := p.x) (b := H) (by omega) (by omega) (by omega)
  unfold isOut
  by_cases hL : p.x < L
  · exact .inl ⟨by simp [hL], by rw [oL, Int.compare_eq_lt.2 hL]⟩
  · by_cases hH : H < p.x
    · exact .inr (.inl ⟨by simp [hH], by rw [oL, Int.compare_eq_gt.2 (by omega)], by rw [oH, Int.compare_eq_gt.2 hH]⟩)
    · refine .inr (.inr ⟨by simp [hL, hH], ?_, ?_⟩)
      · rw [oL]
        rcases Int.lt_or_eq_of_le (show L ≤ p.x by omega) with h | h
        · exact .inl (by rw [Int.compare_eq_gt.2 h])
        · exact .inr (by rw [Int.compare_eq_eq.2 h.symm])
      · rw [oH]
        rcases Int.lt_or_eq_of_le (show p.x ≤ H by omega) with h | h
        · exact .inl (by rw [Int.compare_eq_lt.2 h])
        · exact .inr (by rw [Int.compare_eq_eq.2 h])

end Go.Proofs.Ytnmdgbnophclnaa
