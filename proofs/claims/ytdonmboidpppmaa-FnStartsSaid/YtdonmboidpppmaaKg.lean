/- Contracts: the field of the charges of particles; sums of numbers; fields. Contracts: fields, sums of numbers, equal lists of numbers. Contract: particles that are moved by whole cells. Contract: how many particles are in each cell: all of them together. Contract: a field that is shifted around the edges. Plain law: charges are neither lost nor made, and what is moved by whole cells leaves what is moved by these. No program. -/
import Derived.Test.YtdonmboidpppmaaKa
import Derived.Test.YtdonmboidpppmaaId
import Derived.Deep.RegionHeld
namespace Go.Proofs.Ytdonmboidpppmaa
open Go.RowKit Go.Sort Ieee
set_option linter.unusedSimpArgs false

theorem size_le (W H : Nat) (h : Sides W H) : 16 ≤ W * H ∧ W * H ≤ 49 := by
  obtain ⟨⟨h1, h2⟩, h3, h4⟩ := h
  exact ⟨Nat.mul_le_mul (m₁ := 4) (n₁ := 4) h1 h3, Nat.mul_le_mul (m₂ := 7) (n₂ := 7) h2 h4⟩

set_option maxHeartbeats 1000000 in
theorem size_ok (W H : Nat) (h : Sides W H) (w : World) : Calls Try.prog 66 #[gridV W H] w fun e w' => e = .returned (.int .i64 ((W * H : Nat) : Int)) ∧ Below w.heap.size w w' := by
  have hb := size_le W H h
  have e : ((W * H : Nat) : Int) = (W : Int) * (H : Int) := Int.natCast_mul ..
  have hw : IntKind.i64.wrap ((W : Int) * (H : Int)) = (W : Int) * (H : Int) := by rw [← e]; exact IntWalk.i64_in _ ⟨by omega, by omega⟩
  rw [e]
  clear hb e h
  unfold gridV
  go_enter Try.func66, Try.ntmps66
  go_wp2_with fail
  go_ret
  exact ⟨rfl, by go_grown⟩

theorem zeros_word (n : Nat) : Array.replicate n (Value.float .f32 0) = fCells 7 (List.replicate n 0) := by
  unfold fCells
  rw [List.map_replicate, wd_zero, List.toArray_replicate]

theorem infoF32 : (Try.prog.info? 32).map (fun i => (i.zero, i.size, i.bytes)) = some (some (.float .f32 0), 1, 4) := by kernel_rfl
theorem infoI64 : (Try.prog.info? 2).map (fun i => (i.zero, i.size, i.bytes)) = some (some (.int .i64 0), 1, 8) := by kernel_rfl
theorem made_one (z : Value) (hz : z.cells = #[z]) (n : Nat) : madeCells z.cells (n * 1) = Array.replicate n z := by
  rw [hz, Nat.mul_one]
  apply Array.ext
  · simp [madeCells]
  · intro i h1 h2
    simp [madeCells, Nat.mod_one]
theorem run_mkF (n : Nat) (hn : n ≤ 1000) (w : World) : (Instr.makeSlice 29 (.int .i64 n) (.int .i64 n)).run Try.prog w = .ok (.slice (some ⟨w.heap.size, 0, none⟩) n n) (w.alloc (.cells (fCells 7 (List.replicate n 0)) 32)) := by
  obtain ⟨i0, hi0, hz0, hz1, hz2⟩ := info_parts infoF32
  have h := run_makeSlice w 29 32 i0 _ Try.underlying29 hi0 hz0 .i64 .i64 n n (by omega) (Int.le_refl _) (by rw [hz1]; omega) (by rw [hz2]; omega) (by omega)
  rw [Int.toNat_natCast, hz1, made_one _ rfl, zeros_word] at h
  exact h
def depAll (W H : Nat) (gs : List GP) : List Int := gs.foldl (fun fs p => depF p.q (cornersL W H p.x p.y) fs) (List.replicate (W * H) 0)
theorem depAll_take (W H : Nat) (gs : List GP) (i : Nat) (h : i < gs.length) : depAll W H (gs.take (i + 1)) = depF gs[i].q (cornersL W H gs[i].x gs[i].y) (depAll W H (gs.take i)) := by
  unfold depAll
  rw [List.take_succ_eq_append_getElem h, List.foldl_append]
  rfl
theorem depAll_length (W H : Nat) (gs : List GP) : (depAll W H gs).length = W * H := by
  unfold depAll
  have h : ∀ (gs : List GP) (fs : List Int), (gs.foldl (fun fs p => depF p.q (cornersL W H p.x p.y) fs) fs).length = fs.length := by
    intro gs
    induction gs with
    | nil => intro fs; rfl
    | cons p gs ih => intro fs; rw [List.foldl_cons, ih, depF_length]
  rw [h, List.length_replicate]
theorem depAll_small (W H : Nat) (gs : List GP) (hok : ∀ p ∈ gs, p.ok) : Small (depAll W H gs) (1024 * gs.length) := by
  unfold depAll
  have h : ∀ (gs : List GP), (∀ p ∈ gs, p.ok) → ∀ (fs : List Int) (M : Nat), Small fs M → Small (gs.foldl (fun fs p => depF p.q (cornersL W H p.x p.y) fs) fs) (M + 1024 * gs.length) := by
    intro gs
    induction gs with
    | nil => intro _ fs M h; exact h
    | cons p gs ih =>
      intro ho fs M h
      obtain ⟨_, _, _, _, ⟨q0, q1⟩, _⟩ := ho p (List.mem_cons_self ..)
      have h1 := Small.dep (q := p.q) (by omega) (cornersL W H p.x p.y) (fun c hc => (cornersL_share W H p.x p.y c hc).2) h
      have h2 := ih (fun q hq => ho q (List.mem_cons_of_mem _ hq)) _ _ h1
      intro n hn
      have h3 := h2 n hn
      have e : (cornersL W H p.x p.y).length = 4 := rfl
      rw [e] at h3
      rw [List.length_cons]
      omega
  have h2 := h gs hok (List.replicate (W * H) 0) 0 (fun n hn => by rw [(List.mem_replicate.1 hn).2]; exact Nat.le_refl _)
  rwa [Nat.zero_add] at h2
theorem GP.place {p : GP} (h : p.ok) : PlaceOk p.x p.y := by
  obtain ⟨h1, h2, _⟩ := h
  exact ⟨⟨by omega, by omega⟩, by omega, by omega⟩

end Go.Proofs.Ytdonmboidpppmaa
namespace Go.Proofs.Ytdonmboidpppmaa
open Go.RowKit Go.Sort Ieee
set_option linter.unusedSimpArgs false

theorem length_ok (a : Option Addr) (n c : Nat) (w : World) : Calls Try.prog 65 #[.slice a n c] w fun e w' => e = .returned (.int .i64 n) ∧ w' = w := by
  go_enter Try.func65, Try.ntmps65
  go_wp2_with fail
  go_ret
  exact ⟨rfl, rfl⟩

set_option maxHeartbeats 2000000 in
set_option maxRecDepth 20000 in
theorem IsField_ok (W H : Nat) (h : Sides W H) (a : Option Addr) (c : Nat) (w : World) : Calls Try.prog 41 #[gridV W H, .slice a (W * H) c] w fun e w' => e = .returned (.bool true) ∧ Below w.heap.size w w' := by
  have A := keep (fun w d os => Calls.regrown_of (ValidGrid_ok W H h (grow (redrawn w d) os)))
  have B := keep (fun w d os => Calls.regrown_of (size_ok W H h (grow (redrawn w d) os)))
  have C := keep (fun n w d os => Calls.regrown_of ((length_ok a n c (grow (redrawn w d) os)).mono fun _ _ ⟨he, hw⟩ => ⟨he, hw ▸ Below.refl _ _⟩))
  have P := keep (Has.made w 25 #[.int .i64 W, .int .i64 H])
  have k0 := cell_regrown (P.out.cells 0)
  have k1 := cell_regrown (P.out.cells 1)
  have B0 := keep ((Below.refl w.heap.size w).alloc (Nat.le_refl _) (.cells #[.int .i64 W, .int .i64 H] 25))
  generalize W * H = n at *
  have hbn : ((n : Int) == (n : Int)) = true := by simp
  clear h
  unfold gridV at *
  go_enter Try.func41, Try.ntmps41
  go_wp2_with fail
  refine wp_region_quiet_below (by as_aux_lemma => kernel_rfl) (by as_aux_lemma => kernel_rfl) ?_
  repeat (any_goals (go_big_quiet_step (first | (with_reducible exact A.out _ _ _) | (with_reducible exact B.out _ _ _) | (with_reducible exact C.out _ _ _ _))))
  refine wpQuiet_nil ?_
  intro w2 hw2
  obtain ⟨⟨d2, os2⟩, rfl⟩ := hw2
  have hb2 := below_regrown (w.alloc (.cells #[.int .i64 W, .int .i64 H] 25)) d2 os2
  generalize grow (redrawn (w.alloc (.cells #[.int .i64 W, .int .i64 H] 25)) d2) os2 = w2 at *
  have hB := B0.out.trans (hb2.mono (by simp))
  clear k0 k1 hb2
  go_wp2_with fail
  go_ret
  exact ⟨rfl, hB⟩

def sumL (fs : List Int) : Int := fs.sum
theorem sumL_take (fs : List Int) (i : Nat) (h : i < fs.length) : sumL (fs.take (i + 1)) = sumL (fs.take i) + fs[i] := by
  unfold sumL
  rw [List.take_succ_eq_append_getElem h, List.sum_append]
  simp
theorem sumL_bound (fs : List Int) (M : Nat) (h : Small fs M) : (sumL fs).natAbs ≤ M * fs.length := by
  induction fs with
  | nil => simp [sumL]
  | cons n fs ih =>
    have h1 := ih (fun q hq => h q (List.mem_cons_of_mem _ hq))
    have h2 := h n (List.mem_cons_self ..)
    unfold sumL at *
    simp only [List.sum_cons, List.length_cons]
    rw [Nat.mul_succ]
    omega
theorem Small.take {fs : List Int} {M : Nat} (h : Small fs M) (i : Nat) : Small (fs.take i) M := fun n hn => h n (List.mem_of_mem_take hn)

end Go.Proofs.Ytdonmboidpppmaa
namespace Go.Proofs.Ytdonmboidpppmaa
open Go.RowKit Go.Sort Ieee
set_option linter.unusedSimpArgs false

/-- Of the first i particles one cell is changed. -/
def MixG (f0 f1 : GP → PD) (gs : List GP) (i : Nat) (cur : Array Value) : Prop := ∀ k (hk : k < gs.length) j, j < 4 → cur[k * 4 + j]? = (if k < i then f1 gs[k] else f0 gs[k]).cells[j]?
theorem MixG.start {f0 f1 : GP → PD} {gs : List GP} {cur : Array Value} (h : cur.toList.take (gs.length * 4) = psCells (gs.map f0)) : MixG f0 f1 gs 0 cur := by
  intro k hk j hj
  have hk' : k < (gs.map f0).length := by rw [List.length_map]; exact hk
  have e := psCells_at (gs.map f0) k hk' j hj
  rw [List.getElem_map] at e
  rw [if_neg (by omega), ← e, ← h, List.getElem?_take_of_lt (by omega), Array.getElem?_toList]
theorem MixG.step {f0 f1 : GP → PD} {gs : List GP} {i : Nat} {cur : Array Value} (h : MixG f0 f1 gs i cur) (hi : i < gs.length) (c : Nat) (V : Value) (hc : c < 4) (hs : i * 4 + c < cur.size) (h1 : (f1 gs[i]).cells[c]? = some V) (h2 : ∀ j, j < 4 → j ≠ c → (f1 gs[i]).cells[j]? = (f0 gs[i]).cells[j]?) : MixG f0 f1 gs (i + 1) (cur.setIfInBounds (i * 4 + c) V) := by
  intro k hk j hj
  by_cases hki : k = i
  · subst hki
    rw [if_pos (by omega)]
    by_cases hjc : j = c
    · subst hjc
      rw [Array.getElem?_setIfInBounds_self_of_lt hs, h1]
    · rw [Array.getElem?_setIfInBounds_ne (by omega), h2 j hj hjc, h k hk j hj, if_neg (by omega)]
  · rw [Array.getElem?_setIfInBounds_ne (by omega), h k hk j hj]
    by_cases hlt : k < i
    · rw [if_pos hlt, if_pos (by omega)]
    · rw [if_neg hlt, if_neg (by omega)]
theorem MixG.done {f0 f1 : GP → PD} {gs : List GP} {cur : Array Value} (h : MixG f0 f1 gs gs.length cur) (hs : gs.length * 4 ≤ cur.size) : cur.toList.take (gs.length * 4) = psCells (gs.map f1) := by
  refine psCells_ext _ _ ?_ fun k hk j hj => ?_
  · rw [List.length_take, List.length_map]
    have : cur.toList.length = cur.size := rfl
    omega
  · rw [List.length_map] at hk
    rw [List.getElem?_take_of_lt (by omega), Array.getElem?_toList, h k hk j hj, if_pos hk, List.getElem_map]

theorem int_word (n : Int) (h : n.natAbs ≤ 1000) : floatOfInt .f32 n = wd single 3 (8 * n) := by
  have h := wd_up fit_single binade_le_single (k := 0) (a := n) 3 (by decide) (by show n.natAbs < 16777216; omega)
  rw [ofInt_wd, ← h]
  show wd single 3 _ = _
  rw [show n * ((2 ^ 3 : Nat) : Int) = 8 * n by omega]

/-- A particle that is moved by whole cells. -/
def shiftG (W H : Nat) (X Y : Int) (p : GP) : GP := ⟨md (p.x + 8 * X) W, md (p.y + 8 * Y) H, p.u, p.v, p.q, p.m⟩
theorem cells4_at (a a' b c d : Value) (j : Nat) (h : j = 1 ∨ j = 2 ∨ j = 3) : [a, b, c, d][j]? = [a', b, c, d][j]? := by
  rcases h with rfl | rfl | rfl <;> rfl
theorem shiftG_cells (W H : Nat) (X Y : Int) (p : GP) : (shiftG W H X Y p).pd.cells = [.complex .f32 (wd single 3 (md (p.x + 8 * X) W)) (wd single 3 (md (p.y + 8 * Y) H)), .complex .f32 (wd single 3 p.u) (wd single 3 p.v), .float .f32 (wd single 1 p.q), .float .f32 (wd single 2 p.m)] := by
  simp only [shiftG, GP.pd, PD.cells]
theorem GP.pd_cells (p : GP) : p.pd.cells = [.complex .f32 (wd single 3 p.x) (wd single 3 p.y), .complex .f32 (wd single 3 p.u) (wd single 3 p.v), .float .f32 (wd single 1 p.q), .float .f32 (wd single 2 p.m)] := by
  simp only [GP.pd, PD.cells]
theorem shiftG_ok {W H : Nat} (h : Sides W H) (X Y : Int) {p : GP} (hp : p.ok) : (shiftG W H X Y p).ok := by
  obtain ⟨⟨h1, h2⟩, h3, h4⟩ := h
  obtain ⟨m0, m1⟩ := md_bounds (p.x + 8 * X) W h1
  obtain ⟨n0, n1⟩ := md_bounds (p.y + 8 * Y) H h3
  obtain ⟨_, _, p3, p4, p5, p6⟩ := hp
  refine ⟨⟨?_, ?_⟩, ⟨?_, ?_⟩, p3, p4, p5, p6⟩
  all_goals (unfold shiftG; simp only; omega)

end Go.Proofs.Ytdonmboidpppmaa
namespace Go.Proofs.Ytdonmboidpppmaa
open Go.RowKit Go.Sort Ieee
set_option linter.unusedSimpArgs false

def nCells (cs : List Nat) : Array Value := (cs.map fun (n : Nat) => Value.int .i64 (n : Int)).toArray
theorem nCells_at (cs : List Nat) (i : Nat) (h : i < cs.length) : (nCells cs)[i]? = some (.int .i64 (cs[i] : Int)) := by
  unfold nCells
  rw [List.getElem?_toArray, List.getElem?_map, List.getElem?_eq_getElem h]
  rfl
theorem nCells_set (cs : List Nat) (c n : Nat) : (nCells cs).setIfInBounds c (.int .i64 (n : Int)) = nCells (cs.set c n) := by
  unfold nCells
  rw [List.map_set, List.setIfInBounds_toArray]
theorem nCells_zero (n : Nat) : Array.replicate n (Value.int .i64 0) = nCells (List.replicate n 0) := by
  unfold nCells
  rw [List.map_replicate, List.toArray_replicate]
  rfl
theorem sum_set : ∀ (cs : List Nat) (c : Nat) (h : c < cs.length), (cs.set c (cs[c] + 1)).sum = cs.sum + 1
  | a :: cs, 0, _ => by simp; omega
  | a :: cs, c + 1, h => by
    have h1 : c < cs.length := by simpa using h
    have := sum_set cs c h1
    simp only [List.set_cons_succ, List.sum_cons, List.getElem_cons_succ]
    omega
theorem le_sum_at : ∀ (cs : List Nat) (c : Nat) (h : c < cs.length), cs[c] ≤ cs.sum
  | a :: cs, 0, _ => by simp
  | a :: cs, c + 1, h => by
    have h1 : c < cs.length := by simpa using h
    have := le_sum_at cs c h1
    simp only [List.sum_cons, List.getElem_cons_succ]
    omega
theorem Has.via {w w1 w' : World} {g : Nat} {t : TypeId} {cs : Array Value} (h : Has w g t cs) (e : w1.heap = w.heap) (hb : Below w1.heap.size w1 w') : Has w' g t cs :=
  Has.after (w := w1) (by unfold Has at *; rw [e]; exact h) hb
theorem gb_draw1 {w w1 : World} {r : Option Nat} (h : w.grownBy w1 r) : w.grownBy w1.drew r := gb_below h (Below.drewN w.heap.size w1 1) (Nat.le_refl _)
theorem gb_drawn {w w1 : World} {r : Option Nat} (h : w.grownBy w1 r) (m : Nat) : w.grownBy (w1.drewN m) r := gb_below h (Below.drewN w.heap.size w1 m) (Nat.le_refl _)
theorem gb_store {w w1 : World} {g : Nat} (h : w.grownBy w1 (some g)) (o : Nat) (u : Value) : w.grownBy (w1.setCell ⟨g, o, none⟩ u) (some g) := gb_trans h (gb_row' w1 g o u)

end Go.Proofs.Ytdonmboidpppmaa
namespace Go.Proofs.Ytdonmboidpppmaa
open Go.RowKit Go.Sort Ieee
set_option linter.unusedSimpArgs false

/-- The shifted field, cell by cell. -/
def shiftF (W H : Nat) (X Y : Int) (fs : List Int) : List Int := (List.range (W * H)).map fun k => fs.getD (idx W H (((k % W : Nat) : Int) - X) (((k / W : Nat) : Int) - Y)).toNat 0
theorem shiftF_length (W H : Nat) (X Y : Int) (fs : List Int) : (shiftF W H X Y fs).length = W * H := by unfold shiftF; rw [List.length_map, List.length_range]
theorem shiftF_at (W H : Nat) (X Y : Int) (fs : List Int) (u v : Nat) (hu : u < W) (hv : v < H) : (shiftF W H X Y fs)[v * W + u]? = some (fs.getD (idx W H ((u : Int) - X) ((v : Int) - Y)).toNat 0) := by
  have hk : v * W + u < W * H := by
    have : (v + 1) * W ≤ H * W := Nat.mul_le_mul_right W hv
    rw [Nat.add_mul, Nat.one_mul] at this
    rw [Nat.mul_comm W H]
    omega
  unfold shiftF
  rw [List.getElem?_map, List.getElem?_range hk]
  have e1 : (v * W + u) % W = u := by rw [Nat.mul_comm, Nat.mul_add_mod]; exact Nat.mod_eq_of_lt hu
  have e2 : (v * W + u) / W = v := by rw [Nat.mul_comm, Nat.mul_add_div (by omega)]; rw [Nat.div_eq_of_lt hu]; omega
  simp only [Option.map_some, e1, e2]
theorem idx_in (W H u v : Nat) (hu : u < W) (hv : v < H) : idx W H (u : Int) (v : Int) = ((v * W + u : Nat) : Int) := by
  unfold idx
  rw [Int.emod_eq_of_lt (by omega) (by omega), Int.emod_eq_of_lt (by omega) (by omega), Int.natCast_add, Int.natCast_mul, Int.mul_comm]
  omega
theorem Small.shift {fs : List Int} {M : Nat} (h : Small fs M) (W H : Nat) (X Y : Int) : Small (shiftF W H X Y fs) M := by
  intro n hn
  obtain ⟨k, _, rfl⟩ := List.mem_map.1 hn
  exact h.at _

/-- Of the cells the first m are written. -/
def mixF (fs : List Int) (m : Nat) : List Int := fs.take m ++ List.replicate (fs.length - m) 0
theorem mixF_length (fs : List Int) (m : Nat) (h : m ≤ fs.length) : (mixF fs m).length = fs.length := by
  unfold mixF; rw [List.length_append, List.length_take, List.length_replicate]; omega
theorem mixF_step (fs : List Int) (m : Nat) (n : Int) (h : m < fs.length) (hn : fs[m]? = some n) : (mixF fs m).set m n = mixF fs (m + 1) := by
  unfold mixF
  obtain ⟨k, hk⟩ : ∃ k, fs.length - m = k + 1 := ⟨fs.length - m - 1, by omega⟩
  have ht : (fs.take m).length = m := by rw [List.length_take]; omega
  have hg : fs[m] = n := by rw [List.getElem?_eq_getElem h] at hn; injection hn
  rw [List.set_append_right _ _ (by omega), ht, Nat.sub_self, hk, List.replicate_succ, List.set_cons_zero, List.take_succ_eq_append_getElem h, hg, show fs.length - (m + 1) = k from by omega, List.append_assoc]
  rfl
theorem mixF_full (fs : List Int) : mixF fs fs.length = fs := by unfold mixF; simp
theorem mixF_zero (fs : List Int) : mixF fs 0 = List.replicate fs.length 0 := by unfold mixF; simp

theorem getD_at (fs : List Int) (c : Nat) (h : c < fs.length) : fs.getD c 0 = fs[c] := by rw [List.getD_eq_getElem?_getD, List.getElem?_eq_getElem h]; rfl

end Go.Proofs.Ytdonmboidpppmaa
namespace Go.Proofs.Ytdonmboidpppmaa
open Go.RowKit Go.Sort Ieee
set_option linter.unusedVariables false

theorem addAt_getD (fs : List Int) (c : Nat) (d : Int) (k : Nat) (hk : k < fs.length) : (addAt fs c d).getD k 0 = fs.getD k 0 + (if c = k then d else 0) := by
  unfold addAt
  by_cases h : c = k
  · subst h
    rw [if_pos rfl, List.getD_eq_getElem?_getD, List.getElem?_set_self hk]
    rfl
  · rw [if_neg h, List.getD_eq_getElem?_getD, List.getElem?_set_ne h, List.getD_eq_getElem?_getD]
    omega
/-- What charges at corners bring to a cell. -/
def contrib (q : Int) (cs : List (Nat × Int)) (k : Nat) : Int := (cs.map fun c => if c.1 = k then q * c.2 else 0).sum
theorem depF_getD (q : Int) : ∀ (cs : List (Nat × Int)) (fs : List Int) (k : Nat), k < fs.length → (depF q cs fs).getD k 0 = fs.getD k 0 + contrib q cs k
  | [], fs, k, _ => by simp [depF, contrib]
  | c :: cs, fs, k, hk => by
    have h := depF_getD q cs (addAt fs c.1 (q * c.2)) k (by rw [addAt_length]; exact hk)
    rw [addAt_getD _ _ _ _ hk] at h
    show (depF q cs (addAt fs c.1 (q * c.2))).getD k 0 = _
    rw [h]
    unfold contrib
    rw [List.map_cons, List.sum_cons]
    omega
def contribAll (W H : Nat) (gs : List GP) (k : Nat) : Int := (gs.map fun p => contrib p.q (cornersL W H p.x p.y) k).sum
theorem depAll_getD (W H : Nat) (gs : List GP) (k : Nat) (hk : k < W * H) : (depAll W H gs).getD k 0 = contribAll W H gs k := by
  unfold depAll
  have h : ∀ (gs : List GP) (fs : List Int), fs.length = W * H → (gs.foldl (fun fs p => depF p.q (cornersL W H p.x p.y) fs) fs).getD k 0 = fs.getD k 0 + contribAll W H gs k := by
    intro gs
    induction gs with
    | nil => intro fs _; simp [contribAll]
    | cons p gs ih =>
      intro fs hl
      rw [List.foldl_cons, ih _ (by rw [depF_length]; exact hl), depF_getD _ _ _ _ (by omega)]
      unfold contribAll
      rw [List.map_cons, List.sum_cons]
      omega
  rw [h gs _ (List.length_replicate ..)]
  have e : (List.replicate (W * H) (0 : Int)).getD k 0 = 0 := by
    rw [List.getD_eq_getElem?_getD, List.getElem?_replicate, if_pos hk]
    rfl
  rw [e]
  omega

theorem idx_eq (W H : Nat) (hW : 0 < W) (hH : 0 < H) (a b c d : Int) : idx W H a b = idx W H c d ↔ a % (W : Int) = c % (W : Int) ∧ b % (H : Int) = d % (H : Int) := by
  constructor
  · intro h
    unfold idx at h
    have m : ∀ x y : Int, (x % (W : Int) + (W : Int) * (y % (H : Int))) % (W : Int) = x % (W : Int) := fun x y => by
      rw [Int.add_mul_emod_self_left]; exact Int.emod_emod_of_dvd x (Int.dvd_refl _)
    have dv : ∀ x y : Int, (x % (W : Int) + (W : Int) * (y % (H : Int))) / (W : Int) = y % (H : Int) := fun x y => by
      rw [Int.add_mul_ediv_left _ _ (by omega), Int.ediv_eq_zero_of_lt (Int.emod_nonneg _ (by omega)) (Int.emod_lt_of_pos _ (by omega)), Int.zero_add]
    have h1 := congrArg (· % (W : Int)) h
    have h2 := congrArg (· / (W : Int)) h
    simp only [m, dv] at h1 h2
    exact ⟨h1, h2⟩
  · rintro ⟨h1, h2⟩
    unfold idx
    rw [h1, h2]
theorem md_cell (x : Int) (W : Nat) (hW : 0 < W) : md x W / 8 = x / 8 % (W : Int) := by
  unfold md
  have e := Int.mul_ediv_add_emod x (8 * (W : Int))
  have r0 := Int.emod_nonneg x (show (8 * (W : Int)) ≠ 0 by omega)
  have r1 := Int.emod_lt_of_pos x (show 0 < 8 * (W : Int) by omega)
  generalize x % (8 * (W : Int)) = r at *
  generalize x / (8 * (W : Int)) = q at *
  rw [Int.mul_assoc] at e
  have e2 : x / 8 = (W : Int) * q + r / 8 := by omega
  rw [e2, Int.add_comm, Int.add_mul_emod_self_left]
  exact (Int.emod_eq_of_lt (by omega) (by omega)).symm
theorem frac_cell (x : Int) (W : Nat) : frac x W = x % 8 := by
  unfold frac md
  exact Int.emod_emod_of_dvd x (Int.dvd_mul_right 8 _)
theorem idx_nonneg (W H : Nat) (hW : 0 < W) (hH : 0 < H) (a b : Int) : 0 ≤ idx W H a b := by
  unfold idx
  have h1 := Int.emod_nonneg a (show (W : Int) ≠ 0 by omega)
  have h2 := Int.mul_nonneg (show 0 ≤ (W : Int) by omega) (Int.emod_nonneg b (show (H : Int) ≠ 0 by omega))
  omega
theorem idx_nat_eq (W H : Nat) (hW : 0 < W) (hH : 0 < H) (a b c d : Int) : (idx W H a b).toNat = (idx W H c d).toNat ↔ a % (W : Int) = c % (W : Int) ∧ b % (H : Int) = d % (H : Int) := by
  rw [← idx_eq W H hW hH]
  have h1 := idx_nonneg W H hW hH a b
  have h2 := idx_nonneg W H hW hH c d
  omega
theorem mod_shift (a i X u : Int) (W : Nat) (hW : 0 < W) : ((a + X) % (W : Int) + i) % (W : Int) = u % (W : Int) ↔ (a % (W : Int) + i) % (W : Int) = (u - X) % (W : Int) := by
  rw [Int.emod_add_emod, Int.emod_add_emod]
  constructor
  · intro h
    have := Int.emod_emod_of_dvd 0 (Int.dvd_refl (W : Int))
    have h2 : ((a + X + i) - X) % (W : Int) = (u - X) % (W : Int) := by rw [Int.sub_emod, h, ← Int.sub_emod]
    rw [show a + X + i - X = a + i by omega] at h2
    exact h2
  · intro h
    have h2 : ((a + i) + X) % (W : Int) = ((u - X) + X) % (W : Int) := by rw [Int.add_emod, h, ← Int.add_emod]
    rw [show a + i + X = a + X + i by omega, show u - X + X = u by omega] at h2
    exact h2

theorem contrib_shift (W H : Nat) (hW : 0 < W) (hH : 0 < H) (X Y : Int) (p : GP) (u v : Int) :
    contrib (shiftG W H X Y p).q (cornersL W H (shiftG W H X Y p).x (shiftG W H X Y p).y) (idx W H u v).toNat = contrib p.q (cornersL W H p.x p.y) (idx W H (u - X) (v - Y)).toNat := by
  have f1 : frac (md (p.x + 8 * X) W) W = frac p.x W := by
    rw [frac_cell, frac_cell]
    unfold md
    rw [Int.emod_emod_of_dvd _ (Int.dvd_mul_right 8 _)]
    omega
  have f2 : frac (md (p.y + 8 * Y) H) H = frac p.y H := by
    rw [frac_cell, frac_cell]
    unfold md
    rw [Int.emod_emod_of_dvd _ (Int.dvd_mul_right 8 _)]
    omega
  have i1 : ∀ x : Int, md (md x W) W = md x W := fun x => by unfold md; exact Int.emod_emod_of_dvd x (Int.dvd_refl _)
  have i2 : ∀ x : Int, md (md x H) H = md x H := fun x => by unfold md; exact Int.emod_emod_of_dvd x (Int.dvd_refl _)
  have c1 : md (p.x + 8 * X) W / 8 = (p.x / 8 + X) % (W : Int) := by rw [md_cell _ _ hW]; congr 1; omega
  have c2 : md (p.y + 8 * Y) H / 8 = (p.y / 8 + Y) % (H : Int) := by rw [md_cell _ _ hH]; congr 1; omega
  have key : ∀ i j : Int, ((idx W H ((p.x / 8 + X) % (W : Int) + i) ((p.y / 8 + Y) % (H : Int) + j)).toNat = (idx W H u v).toNat) = ((idx W H (p.x / 8 % (W : Int) + i) (p.y / 8 % (H : Int) + j)).toNat = (idx W H (u - X) (v - Y)).toNat) := fun i j => by
    apply propext
    rw [idx_nat_eq W H hW hH, idx_nat_eq W H hW hH, mod_shift _ _ _ _ _ hW, mod_shift _ _ _ _ _ hH]
  have k00 := key 0 0
  have k10 := key 1 0
  have k01 := key 0 1
  have k11 := key 1 1
  simp only [Int.add_zero] at k00 k10 k01
  unfold contrib cornersL shiftG
  simp only [List.map_cons, List.map_nil, i1, i2, f1, f2, c1, c2, md_cell p.x W hW, md_cell p.y H hH, k00, k10, k01, k11]

theorem shift_law (W H : Nat) (hW : 0 < W) (hH : 0 < H) (X Y : Int) (gs : List GP) : depAll W H (gs.map (shiftG W H X Y)) = shiftF W H X Y (depAll W H gs) := by
  have hl : (depAll W H gs).length = W * H := depAll_length W H gs
  apply List.ext_getElem?
  intro k
  by_cases hk : k < W * H
  · have hu : k % W < W := Nat.mod_lt _ hW
    have hv : k / W < H := by rw [Nat.div_lt_iff_lt_mul hW, Nat.mul_comm H W]; exact hk
    have ek : k / W * W + k % W = k := by rw [Nat.mul_comm]; exact Nat.div_add_mod k W
    have e1 := shiftF_at W H X Y (depAll W H gs) (k % W) (k / W) hu hv
    rw [ek] at e1
    rw [e1]
    have e2 := depAll_getD W H (gs.map (shiftG W H X Y)) k hk
    have ki := idx_in W H (k % W) (k / W) hu hv
    rw [ek] at ki
    have e3 : (depAll W H gs).getD (idx W H (((k % W : Nat) : Int) - X) (((k / W : Nat) : Int) - Y)).toNat 0 = contribAll W H gs (idx W H (((k % W : Nat) : Int) - X) (((k / W : Nat) : Int) - Y)).toNat := by
      refine depAll_getD W H gs _ ?_
      have b0 := Int.emod_nonneg (((k % W : Nat) : Int) - X) (show (W : Int) ≠ 0 by omega)
      have b1 := Int.emod_lt_of_pos (((k % W : Nat) : Int) - X) (show (0 : Int) < (W : Int) by omega)
      have b2 := Int.emod_nonneg (((k / W : Nat) : Int) - Y) (show (H : Int) ≠ 0 by omega)
      have b3 := Int.emod_lt_of_pos (((k / W : Nat) : Int) - Y) (show (0 : Int) < (H : Int) by omega)
      have t0 : 0 ≤ (W : Int) * ((((k / W : Nat) : Int) - Y) % (H : Int)) := Int.mul_nonneg (by omega) b2
      have t1 : (W : Int) * ((((k / W : Nat) : Int) - Y) % (H : Int)) ≤ (W : Int) * ((H : Int) - 1) := Int.mul_le_mul_of_nonneg_left (by omega) (by omega)
      have t2 : (W : Int) * ((H : Int) - 1) = (W : Int) * (H : Int) - W := by rw [Int.mul_sub, Int.mul_one]
      have t3 : ((W * H : Nat) : Int) = (W : Int) * (H : Int) := Int.natCast_mul ..
      unfold idx
      omega
    rw [e3]
    have e4 : contribAll W H (gs.map (shiftG W H X Y)) k = contribAll W H gs (idx W H (((k % W : Nat) : Int) - X) (((k / W : Nat) : Int) - Y)).toNat := by
      unfold contribAll
      rw [List.map_map]
      congr 1
      refine List.map_congr_left fun p _ => ?_
      have e5 := contrib_shift W H hW hH X Y p ((k % W : Nat) : Int) ((k / W : Nat) : Int)
      rw [ki, Int.toNat_natCast] at e5
      exact e5
    rw [← e4, ← e2]
    have hlen : (depAll W H (gs.map (shiftG W H X Y))).length = W * H := depAll_length W H _
    rw [List.getD_eq_getElem?_getD, List.getElem?_eq_getElem (by omega)]
    rfl
  · rw [List.getElem?_eq_none (by rw [depAll_length]; omega), List.getElem?_eq_none (by rw [shiftF_length]; omega)]

theorem sum_addAt : ∀ (fs : List Int) (c : Nat) (d : Int), c < fs.length → sumL (addAt fs c d) = sumL fs + d
  | a :: fs, 0, d, _ => by simp [addAt, sumL]; omega
  | a :: fs, c + 1, d, h => by
    have h1 : c < fs.length := by simpa using h
    have := sum_addAt fs c d h1
    unfold addAt sumL at *
    simp only [List.getD_cons_succ, List.set_cons_succ, List.sum_cons]
    omega
theorem sum_depF (q : Int) : ∀ (cs : List (Nat × Int)) (fs : List Int), (∀ c ∈ cs, c.1 < fs.length) → sumL (depF q cs fs) = sumL fs + q * (cs.map Prod.snd).sum
  | [], fs, _ => by simp [depF]
  | c :: cs, fs, h => by
    have h1 := sum_depF q cs (addAt fs c.1 (q * c.2)) (fun x hx => by rw [addAt_length]; exact h x (List.mem_cons_of_mem _ hx))
    rw [sum_addAt fs c.1 (q * c.2) (h c (List.mem_cons_self ..))] at h1
    show sumL (depF q cs (addAt fs c.1 (q * c.2))) = _
    rw [h1, List.map_cons, List.sum_cons, Int.mul_add]
    omega
theorem corners_sum (W H : Nat) (x y : Int) : ((cornersL W H x y).map Prod.snd).sum = 64 := by
  unfold cornersL
  simp only [List.map_cons, List.map_nil, List.sum_cons, List.sum_nil]
  have e1 : (8 - frac x W) * (8 - frac y H) + frac x W * (8 - frac y H) = 8 * (8 - frac y H) := by rw [← Int.add_mul]; congr 1; omega
  have e2 : (8 - frac x W) * frac y H + frac x W * frac y H = 8 * frac y H := by rw [← Int.add_mul]; congr 1; omega
  omega
theorem corners_in (W H : Nat) (h : Sides W H) (x y : Int) : ∀ c ∈ cornersL W H x y, c.1 < W * H := by
  intro c hc
  simp only [cornersL, List.mem_cons, List.not_mem_nil, or_false] at hc
  rcases hc with rfl | rfl | rfl | rfl
  all_goals
    simp only
    first
      | (obtain ⟨n, e, l⟩ := idx_nat W H h (md x W / 8) (md y H / 8); rw [e, Int.toNat_natCast]; exact l)
      | (obtain ⟨n, e, l⟩ := idx_nat W H h (md x W / 8 + 1) (md y H / 8); rw [e, Int.toNat_natCast]; exact l)
      | (obtain ⟨n, e, l⟩ := idx_nat W H h (md x W / 8) (md y H / 8 + 1); rw [e, Int.toNat_natCast]; exact l)
      | (obtain ⟨n, e, l⟩ := idx_nat W H h (md x W / 8 + 1) (md y H / 8 + 1); rw [e, Int.toNat_natCast]; exact l)
theorem total_law (W H : Nat) (h : Sides W H) (gs : List GP) : sumL (depAll W H gs) = 64 * sumQ gs := by
  unfold depAll
  have key : ∀ (gs : List GP) (fs : List Int), fs.length = W * H → sumL (gs.foldl (fun fs p => depF p.q (cornersL W H p.x p.y) fs) fs) = sumL fs + 64 * sumQ gs := by
    intro gs
    induction gs with
    | nil => intro fs _; simp [sumQ]
    | cons p gs ih =>
      intro fs hl
      rw [List.foldl_cons, ih _ (by rw [depF_length]; exact hl), sum_depF _ _ _ (fun c hc => by rw [hl]; exact corners_in W H h p.x p.y c hc), corners_sum]
      unfold sumQ
      rw [List.map_cons, List.sum_cons]
      omega
  rw [key gs _ (List.length_replicate ..)]
  have e : sumL (List.replicate (W * H) (0 : Int)) = 0 := by
    unfold sumL
    generalize W * H = n
    induction n with
    | zero => rfl
    | succ n ih => rw [List.replicate_succ, List.sum_cons, ih]; rfl
  omega
theorem charge_word (a : Int) (h : a.natAbs ≤ 100) : wd single 7 (64 * a) = wd single 1 a := by
  have e := wd_up (f := single) fit_single binade_le_single (k := 1) (a := a) 6 (by decide) (by show a.natAbs < 16777216; omega)
  rw [show (1 + 6 : Nat) = 7 from rfl, show ((2 ^ 6 : Nat) : Int) = 64 from rfl] at e
  rw [← e, Int.mul_comm]
end Go.Proofs.Ytdonmboidpppmaa
