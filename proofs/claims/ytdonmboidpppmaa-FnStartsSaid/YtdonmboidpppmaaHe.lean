/- Contracts: walls, one particle thrown back. Contracts: the charge of a list; a list without those outside. -/
import Derived.Test.YtdonmboidpppmaaHc
namespace Go.Proofs.Ytdonmboidpppmaa
open Go.RowKit Go.Sort Ieee
set_option linter.unusedSimpArgs false

theorem run_negf (a : Nat) (w : World) : (Op.unary .neg (.float .f32 a)).run Try.prog w = .ok (.float .f32 (Op.negFloat .f32 a)) w := rfl

/-- The first speed of one that is thrown back, keeping a half. -/
def sp (u : Int) : Nat := (floatBits .mul .f32 (Op.negFloat .f32 (wd single 3 u)) 1056964608).getD 0
theorem sp_all : ∀ n : Fin 17, floatBits .mul .f32 (Op.negFloat .f32 (wd single 3 ((n.val : Int) - 8))) 1056964608 = some (sp ((n.val : Int) - 8)) ∧ sp ((n.val : Int) - 8) < 4294967296 ∧ fin .f32 (sp ((n.val : Int) - 8)) = true ∧ FloatKind.f32.format.order (sp ((n.val : Int) - 8)) (sp ((n.val : Int) - 8)) = some .eq ∧ ∃ r, floatBits .mul .f32 3204448256 (wd single 3 ((n.val : Int) - 8)) = some r ∧ FloatKind.f32.format.order (sp ((n.val : Int) - 8)) r = some .eq := by
  have key : ∀ n : Fin 17, (decide (floatBits .mul .f32 (Op.negFloat .f32 (wd single 3 ((n.val : Int) - 8))) 1056964608 = some (sp ((n.val : Int) - 8))) && decide (sp ((n.val : Int) - 8) < 4294967296) && fin .f32 (sp ((n.val : Int) - 8)) && decide (FloatKind.f32.format.order (sp ((n.val : Int) - 8)) (sp ((n.val : Int) - 8)) = some .eq) && (match floatBits .mul .f32 3204448256 (wd single 3 ((n.val : Int) - 8)) with | some r => decide (FloatKind.f32.format.order (sp ((n.val : Int) - 8)) r = some .eq) | none => false)) = true := by decide +kernel
  intro n
  have h := key n
  simp only [Bool.and_eq_true, decide_eq_true_eq] at h
  obtain ⟨⟨⟨⟨h1, h2⟩, h3⟩, h4⟩, h5⟩ := h
  refine ⟨h1, h2, h3, h4, ?_⟩
  split at h5
  · next r hr => exact ⟨r, hr, by simpa using h5⟩
  · cases h5
theorem sp_of (u : Int) (h0 : -8 ≤ u) (h1 : u ≤ 8) : floatBits .mul .f32 (Op.negFloat .f32 (wd single 3 u)) 1056964608 = some (sp u) ∧ sp u < 4294967296 ∧ fin .f32 (sp u) = true ∧ FloatKind.f32.format.order (sp u) (sp u) = some .eq ∧ ∃ r, floatBits .mul .f32 3204448256 (wd single 3 u) = some r ∧ FloatKind.f32.format.order (sp u) r = some .eq := by
  have h := sp_all ⟨(u + 8).toNat, by omega⟩
  have e : (((u + 8).toNat : Nat) : Int) - 8 = u := by omega
  simp only [e] at h
  exact h
theorem num_sp (u : Int) (h0 : -8 ≤ u) (h1 : u ≤ 8) : Num (sp u) := ⟨by have := (sp_of u h0 h1).2.1; omega, (sp_of u h0 h1).2.2.2.1⟩

def reflX (L H : Int) (p : GP) : Int := if p.x < L then 2 * L - p.x else if H < p.x then 2 * H - p.x else p.x
def isOut (L H : Int) (p : GP) : Bool := decide (p.x < L) || decide (H < p.x)
def reflS (L H : Int) (p : GP) : Nat := if isOut L H p then sp p.u else wd single 3 p.u
def reflD (L H : Int) (p : GP) : PD := ⟨wd single 3 (reflX L H p), wd single 3 p.y, reflS L H p, wd single 3 p.v, wd single 1 p.q, wd single 2 p.m⟩

def Walls (L H : Int) : Prop := 0 ≤ L ∧ L < H ∧ H ≤ 100

theorem reflX_bound {L H : Int} (h : Walls L H) {p : GP} (hp : p.ok) : -100 ≤ reflX L H p ∧ reflX L H p ≤ 200 := by
  obtain ⟨h0, h1, h2⟩ := h
  obtain ⟨⟨p0, p1⟩, _⟩ := hp
  unfold reflX
  split
  · omega
  · split <;> omega
theorem reflS_num {L H : Int} {p : GP} (hp : p.ok) : Num (reflS L H p) ∧ fin .f32 (reflS L H p) = true := by
  obtain ⟨_, _, ⟨p0, p1⟩, _⟩ := hp
  unfold reflS
  split
  · exact ⟨num_sp p.u p0 p1, (sp_of p.u p0 p1).2.2.1⟩
  · exact ⟨num_wd 3 p.u (by omega) (by omega), fin_wd 3 p.u (by omega) (by omega)⟩
theorem reflD_ok {L H : Int} (h : Walls L H) {p : GP} (hp : p.ok) : (reflD L H p).ok = true := by
  have b := reflX_bound h hp
  have s := (reflS_num (L := L) (H := H) hp).2
  obtain ⟨h1, h2, h3, h4, h5, h6⟩ := hp
  unfold PD.ok validP finC reflD
  simp only
  rw [fin_wd 3 (reflX L H p) (by omega) (by omega), fin_wd 3 p.y (by omega) (by omega), s, fin_wd 3 p.v (by omega) (by omega), fin_wd 1 p.q (by omega) (by omega), fin_wd 2 p.m (by omega) (by omega), gtr_mass p.m (by omega) (by omega)]
  rfl
theorem reflD_num {L H : Int} (h : Walls L H) {p : GP} (hp : p.ok) : (reflD L H p).num := by
  have b := reflX_bound h hp
  have s := (reflS_num (L := L) (H := H) hp).1
  obtain ⟨h1, h2, h3, h4, h5, h6⟩ := hp
  exact ⟨num_wd 3 _ (by omega) (by omega), num_wd 3 _ (by omega) (by omega), s, num_wd 3 _ (by omega) (by omega), num_wd 1 _ (by omega) (by omega), num_wd 2 _ (by omega) (by omega)⟩
theorem GP.num {p : GP} (hp : p.ok) : p.pd.num := by
  obtain ⟨h1, h2, h3, h4, h5, h6⟩ := hp
  exact ⟨num_wd 3 _ (by omega) (by omega), num_wd 3 _ (by omega) (by omega), num_wd 3 _ (by omega) (by omega), num_wd 3 _ (by omega) (by omega), num_wd 1 _ (by omega) (by omega), num_wd 2 _ (by omega) (by omega)⟩

theorem two_word : (1073741824 : Nat) = wd single 0 2 := by decide +kernel

theorem reflD_valid {L H : Int} (h : Walls L H) {p : GP} (hp : p.ok) (w : World) : Calls Try.prog 46 #[(reflD L H p).agg] w fun e w' => e = .returned (.bool true) ∧ Below w.heap.size w w' := by
  have hv := ValidParticle_any (reflD L H p).a (reflD L H p).b (reflD L H p).c (reflD L H p).d (reflD L H p).q (reflD L H p).m w
  rw [show validP (reflD L H p).a (reflD L H p).b (reflD L H p).c (reflD L H p).d (reflD L H p).q (reflD L H p).m = true from reflD_ok h hp] at hv
  exact hv
theorem GP.valid {p : GP} (hp : p.ok) (w : World) : Calls Try.prog 46 #[p.agg] w fun e w' => e = .returned (.bool true) ∧ Below w.heap.size w w' := by
  have hv := ValidParticle_any p.pd.a p.pd.b p.pd.c p.pd.d p.pd.q p.pd.m w
  rw [show validP p.pd.a p.pd.b p.pd.c p.pd.d p.pd.q p.pd.m = true from GP.pd_ok p hp] at hv
  exact hv
theorem fin_half : fin .f32 1056964608 = true := by decide +kernel

end Go.Proofs.Ytdonmboidpppmaa
namespace Go.Proofs.Ytdonmboidpppmaa
open Go.RowKit Go.Sort Ieee
set_option linter.unusedSimpArgs false

def sumQ (gs : List GP) : Int := (gs.map GP.q).sum

theorem gown_form {w : World} {B : Nat} {v : Value} {gs : List GP} (h : w.ownsRow B 41 4 v gs.length (psCells (gs.map GP.pd))) :
    ∃ A c, v = .slice A gs.length c ∧ ∀ i (hi : i < gs.length), ∃ g, A = some ⟨g, 0, none⟩ ∧ g < w.heap.size ∧ w.cell? ⟨g, i * 4, none⟩ = some (.complex .f32 (wd single 3 gs[i].x) (wd single 3 gs[i].y)) ∧ w.cell? ⟨g, i * 4 + 1, none⟩ = some (.complex .f32 (wd single 3 gs[i].u) (wd single 3 gs[i].v)) ∧ w.cell? ⟨g, i * 4 + 2, none⟩ = some (.float .f32 (wd single 1 gs[i].q)) ∧ w.cell? ⟨g, i * 4 + 3, none⟩ = some (.float .f32 (wd single 2 gs[i].m)) := by
  obtain ⟨A, c, rfl, hA⟩ := own_form (ps := gs.map GP.pd) (by rw [List.length_map]; exact h)
  rw [List.length_map] at hA ⊢
  refine ⟨A, c, rfl, fun i hi => ?_⟩
  obtain ⟨g, rfl, hg, hc⟩ := hA (by omega)
  have hi' : i < (gs.map GP.pd).length := by rw [List.length_map]; exact hi
  have h4 : ∀ j u, j < 4 → gs[i].pd.cells[j]? = some u → w.cell? ⟨g, i * 4 + j, none⟩ = some u := fun j u hj hu => hc _ _ (by rw [psCells_at _ i hi' j hj, List.getElem_map]; exact hu)
  exact ⟨g, rfl, hg, h4 0 _ (by omega) rfl, h4 1 _ (by omega) rfl, h4 2 _ (by omega) rfl, h4 3 _ (by omega) rfl⟩

theorem sumQ_take (gs : List GP) (i : Nat) (h : i < gs.length) : sumQ (gs.take (i + 1)) = sumQ (gs.take i) + gs[i].q := by
  unfold sumQ
  rw [List.take_succ_eq_append_getElem h, List.map_append, List.sum_append]
  simp
theorem sumQ_bound (gs : List GP) (h : ∀ p ∈ gs, p.ok) : -(4 * (gs.length : Int)) ≤ sumQ gs ∧ sumQ gs ≤ 4 * (gs.length : Int) := by
  induction gs with
  | nil => simp [sumQ]
  | cons p gs ih =>
    have h1 := ih (fun q hq => h q (List.mem_cons_of_mem _ hq))
    obtain ⟨_, _, _, _, ⟨a, b⟩, _⟩ := h p (List.mem_cons_self ..)
    unfold sumQ at *
    simp only [List.map_cons, List.sum_cons, List.length_cons]
    omega

theorem Areg_ok (B : Nat) (v : Value) (gs : List GP) (w : World) (h : w.ownsRow B 41 4 v gs.length (psCells (gs.map GP.pd))) (hok : ∀ p ∈ gs, p.ok) (hN : gs.length ≤ 6) :
    Calls Try.prog 38 #[v] w fun e w' => e = .returned (.bool true) ∧ Below w.heap.size w w' :=
  AreParticles_ok B v (gs.map GP.pd) w (by rw [List.length_map]; exact h) (GP.all_ok gs hok) (by rw [List.length_map]; omega)

theorem filter_take (f : GP → Bool) (gs : List GP) (i : Nat) (h : i < gs.length) : (gs.take (i + 1)).filter f = (gs.take i).filter f ++ (if f gs[i] then [gs[i]] else []) := by
  rw [List.take_succ_eq_append_getElem h, List.filter_append]
  congr 1
  cases hf : f gs[i] <;> simp [hf]

/-- How a place lies to the walls. -/
theorem side_cases (L H : Int) (h : Walls L H) (p : GP) (hp : p.ok) :
    (isOut L H p = true ∧ FloatKind.f32.format.order (wd single 3 p.x) (wd single 3 L) = some .lt) ∨
    (isOut L H p = true ∧ (FloatKind.f32.format.order (wd single 3 p.x) (wd single 3 L) = some .gt) ∧ FloatKind.f32.format.order (wd single 3 p.x) (wd single 3 H) = some .gt) ∨
    (isOut L H p = false ∧ (FloatKind.f32.format.order (wd single 3 p.x) (wd single 3 L) = some .gt ∨ FloatKind.f32.format.order (wd single 3 p.x) (wd single 3 L) = some .eq) ∧ (FloatKind.f32.format.order (wd single 3 p.x) (wd single 3 H) = some .lt ∨ FloatKind.f32.format.order (wd single 3 p.x) (wd single 3 H) = some .eq)) := by
  obtain ⟨h0, h1, h2⟩ := h
  obtain ⟨⟨x0, x1⟩, _⟩ := hp
  have oL := forder (k := 3) (a := p.x) (b := L) (by omega) (by omega) (by omega)
  have oH := forder (k := 3) (a := p.x) (b := H) (by omega) (by omega) (by omega)
  unfold isOut
  by_cases hL : p.x < L
  · exact .inl ⟨by simp [hL], by rw [oL, Int.compare_eq_lt.2 hL]⟩
  · by_cases hH : H < p.x
    · exact .inr (.inl ⟨by simp [hH], by rw [oL, Int.compare_eq_gt.2 (by omega)], by rw [oH, Int.compare_eq_gt.2 hH]⟩)
    · refine .inr (.inr ⟨by simp [hL, hH], ?_, ?_⟩)
      · rw [oL]
        rcases Int.lt_or_eq_of_le (show L ≤ p.x by omega) with h | h
        · exact .inl (by rw [Int.compare_eq_gt.2 h])
        · exact .inr (by rw [Int.compare_eq_eq.2 h.symm])
      · rw [oH]
        rcases Int.lt_or_eq_of_le (show p.x ≤ H by omega) with h | h
        · exact .inl (by rw [Int.compare_eq_lt.2 h])
        · exact .inr (by rw [Int.compare_eq_eq.2 h])

end Go.Proofs.Ytdonmboidpppmaa
