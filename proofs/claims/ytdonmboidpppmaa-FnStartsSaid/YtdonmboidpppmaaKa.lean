/- A field as numbers of cells, and a charge that is left at the corners around a place. -/
import Derived.Test.YtdonmboidpppmaaGi
import Derived.Test.YtdonmboidpppmaaGg
import Derived.Deep.RegionHeld
import Derived.BigQuiet
namespace Go.Proofs.Ytdonmboidpppmaa
open Go.RowKit Go.Sort Ieee
set_option linter.unusedSimpArgs false

/-- The cells of a field, of numbers n / 2^k. -/
def fCells (k : Nat) (fs : List Int) : Array Value := (fs.map fun n => Value.float .f32 (wd single k n)).toArray
theorem fCells_size (k : Nat) (fs : List Int) : (fCells k fs).size = fs.length := by simp [fCells]
theorem fCells_at (k : Nat) (fs : List Int) (i : Nat) (h : i < fs.length) : (fCells k fs)[i]? = some (.float .f32 (wd single k fs[i])) := by
  unfold fCells
  rw [List.getElem?_toArray, List.getElem?_map, List.getElem?_eq_getElem h]
  rfl
def addAt (fs : List Int) (c : Nat) (d : Int) : List Int := fs.set c (fs.getD c 0 + d)
theorem addAt_length (fs : List Int) (c : Nat) (d : Int) : (addAt fs c d).length = fs.length := List.length_set
theorem fCells_set (k : Nat) (fs : List Int) (c : Nat) (n : Int) : (fCells k fs).setIfInBounds c (.float .f32 (wd single k n)) = fCells k (fs.set c n) := by
  unfold fCells
  rw [List.map_set, List.setIfInBounds_toArray]
/-- What a charge leaves at corners. -/
def depF (q : Int) (cs : List (Nat × Int)) (fs : List Int) : List Int := cs.foldl (fun fs c => addAt fs c.1 (q * c.2)) fs
theorem depF_length (q : Int) (cs : List (Nat × Int)) : ∀ fs : List Int, (depF q cs fs).length = fs.length := by
  induction cs with
  | nil => intro fs; rfl
  | cons c cs ih => intro fs; unfold depF at *; rw [List.foldl_cons, ih, addAt_length]
theorem depF_take (q : Int) (cs : List (Nat × Int)) (fs : List Int) (i : Nat) (h : i < cs.length) : depF q (cs.take (i + 1)) fs = addAt (depF q (cs.take i) fs) cs[i].1 (q * cs[i].2) := by
  unfold depF
  rw [List.take_succ_eq_append_getElem h, List.foldl_append]
  rfl
def Small (fs : List Int) (M : Nat) : Prop := ∀ n ∈ fs, n.natAbs ≤ M
theorem Small.at {fs : List Int} {M : Nat} (h : Small fs M) (c : Nat) : (fs.getD c 0).natAbs ≤ M := by
  by_cases hc : c < fs.length
  · rw [List.getD_eq_getElem?_getD, List.getElem?_eq_getElem hc]
    exact h _ (List.getElem_mem hc)
  · rw [List.getD_eq_getElem?_getD, List.getElem?_eq_none (by omega)]
    exact Nat.zero_le _
theorem Small.add {fs : List Int} {M K : Nat} (h : Small fs M) (c : Nat) (d : Int) (hd : d.natAbs ≤ K) : Small (addAt fs c d) (M + K) := by
  intro n hn
  rcases List.mem_or_eq_of_mem_set hn with h1 | rfl
  · exact Nat.le_trans (h n h1) (by omega)
  · have := h.at c
    omega
theorem Small.dep {q : Int} (hq : q.natAbs ≤ 4) : ∀ (cs : List (Nat × Int)), (∀ c ∈ cs, c.2.natAbs ≤ 64) → ∀ {fs : List Int} {M : Nat}, Small fs M → Small (depF q cs fs) (M + 256 * cs.length)
  | [], _, fs, M, h => h
  | c :: cs, hc, fs, M, h => by
    have h1 : (q * c.2).natAbs ≤ 256 := by
      rw [Int.natAbs_mul]
      exact Nat.mul_le_mul (m₂ := 64) hq (hc c (List.mem_cons_self ..))
    have h2 := Small.dep hq cs (fun x hx => hc x (List.mem_cons_of_mem _ hx)) (h.add c.1 (q * c.2) h1)
    intro n hn
    have := h2 n hn
    rw [List.length_cons]
    omega

/-- The corners around a place, with their shares. -/
def cornersL (W H : Nat) (x y : Int) : List (Nat × Int) :=
  [((idx W H (md x W / 8) (md y H / 8)).toNat, (8 - frac x W) * (8 - frac y H)), ((idx W H (md x W / 8 + 1) (md y H / 8)).toNat, frac x W * (8 - frac y H)), ((idx W H (md x W / 8) (md y H / 8 + 1)).toNat, (8 - frac x W) * frac y H), ((idx W H (md x W / 8 + 1) (md y H / 8 + 1)).toNat, frac x W * frac y H)]

theorem idx_nat (W H : Nat) (h : Sides W H) (x y : Int) : ∃ c : Nat, idx W H x y = c ∧ c < W * H := by
  obtain ⟨⟨h1, h2⟩, h3, h4⟩ := h
  have b0 := Int.emod_nonneg x (show (W : Int) ≠ 0 by omega)
  have b1 := Int.emod_lt_of_pos x (show (0 : Int) < (W : Int) by omega)
  have b2 := Int.emod_nonneg y (show (H : Int) ≠ 0 by omega)
  have b3 := Int.emod_lt_of_pos y (show (0 : Int) < (H : Int) by omega)
  have t0 : 0 ≤ (W : Int) * (y % (H : Int)) := Int.mul_nonneg (by omega) b2
  have t1 : (W : Int) * (y % (H : Int)) ≤ (W : Int) * ((H : Int) - 1) := Int.mul_le_mul_of_nonneg_left (by omega) (by omega)
  have t2 : (W : Int) * ((H : Int) - 1) = (W : Int) * (H : Int) - W := by rw [Int.mul_sub, Int.mul_one]
  have t3 : ((W * H : Nat) : Int) = (W : Int) * (H : Int) := Int.natCast_mul ..
  refine ⟨(idx W H x y).toNat, ?_, ?_⟩
  · unfold idx; omega
  · unfold idx; omega
theorem natAbs_mul_le {a b : Int} {m n : Nat} (ha : a.natAbs ≤ m) (hb : b.natAbs ≤ n) : (a * b).natAbs ≤ m * n := by
  rw [Int.natAbs_mul]
  exact Nat.mul_le_mul ha hb
theorem share_le (f h : Int) (f0 : 0 ≤ f) (f8 : f ≤ 8) (h0 : 0 ≤ h) (h8 : h ≤ 8) : 0 ≤ f * h ∧ (f * h).natAbs ≤ 64 :=
  ⟨Int.mul_nonneg f0 h0, natAbs_mul_le (m := 8) (n := 8) (by omega) (by omega)⟩
theorem cornersL_share (W H : Nat) (x y : Int) : ∀ c ∈ cornersL W H x y, 0 ≤ c.2 ∧ c.2.natAbs ≤ 64 := by
  have f0 : 0 ≤ frac x W := by unfold frac; omega
  have f8 : frac x W < 8 := by unfold frac; omega
  have h0 : 0 ≤ frac y H := by unfold frac; omega
  have h8 : frac y H < 8 := by unfold frac; omega
  intro c hc
  simp only [cornersL, List.mem_cons, List.not_mem_nil, or_false] at hc
  rcases hc with rfl | rfl | rfl | rfl
  · exact share_le _ _ (by omega) (by omega) (by omega) (by omega)
  · exact share_le _ _ (by omega) (by omega) (by omega) (by omega)
  · exact share_le _ _ (by omega) (by omega) (by omega) (by omega)
  · exact share_le _ _ (by omega) (by omega) (by omega) (by omega)

/-- A product of a charge and a share, added to a number. -/
theorem charge_step (F q s : Int) (hF : F.natAbs ≤ 1000000) (hq : q.natAbs ≤ 4) (hs : s.natAbs ≤ 64) : ∃ r, floatBits .mul .f32 (wd single 1 q) (wd single 6 s) = some r ∧ floatBits .add .f32 (wd single 7 F) r = some (wd single 7 (F + q * s)) := by
  have hb : (q * s).natAbs ≤ 256 := by
    rw [Int.natAbs_mul]
    exact Nat.mul_le_mul (m₂ := 64) hq hs
  obtain ⟨r, e, hr, hl⟩ := mul_is (f := single) fit_single binade_le_single (k := 1) (l := 6) (a := q) (b := s) (by decide) (by decide) (by decide) (by show q.natAbs < 16777216; omega) (by show s.natAbs < 16777216; omega) (by show (q * s).natAbs < 16777216; omega)
  exact ⟨r, e, add_is (f := single) fit_single binade_le_single hr hl (by decide) (by show F.natAbs < 16777216; omega) (by show (q * s).natAbs < 16777216; omega) (by show (F + q * s).natAbs < 16777216; omega)⟩

theorem gb_row' (w : World) (g o : Nat) (u : Value) : w.grownBy (w.setCell ⟨g, o, none⟩ u) (some g) :=
  ⟨rfl, rfl, rfl, by simp [World.setCell], fun k _ hne => Below.heap_setCell w ⟨g, o, none⟩ u k (fun e => hne (by rw [e]))⟩
theorem run_ix (vs : Array Value) (i : Nat) (v : Value) (hi : i < 4) (h : vs[i]? = some v) (w : World) : (Instr.index 95 (.agg vs) (.int .i64 i)).run Try.prog w = .ok v w := by
  have h1 : (0 : Int) ≤ (i : Int) ∧ (i : Int) < 4 := by omega
  simp [Instr.index, run_underlying Try.underlying95, asIntOf, h1, part, h, go_sem]
  intro hc
  omega

theorem dep_fact (q : Int) (hq : q.natAbs ≤ 4) (cur : List Int) (c : Nat) (s : Int) (M : Nat) (hs : s.natAbs ≤ 64) (hM : Small cur M) (hM2 : M ≤ 1000000) (hc : c < cur.length) :
    ∃ (F : Int) (r : Nat), (fCells 7 cur)[c]? = some (.float .f32 (wd single 7 F)) ∧ floatBits .mul .f32 (wd single 1 q) (wd single 6 s) = some r ∧ floatBits .add .f32 (wd single 7 F) r = some (wd single 7 (F + q * s)) ∧ (fCells 7 cur).setIfInBounds c (.float .f32 (wd single 7 (F + q * s))) = fCells 7 (addAt cur c (q * s)) := by
  have FA := hM.at c
  obtain ⟨r, e1, e2⟩ := charge_step (cur.getD c 0) q s (by omega) hq hs
  refine ⟨cur.getD c 0, r, ?_, e1, e2, ?_⟩
  · rw [fCells_at 7 cur c hc, List.getD_eq_getElem?_getD, List.getElem?_eq_getElem hc]; rfl
  · rw [fCells_set]; rfl

end Go.Proofs.Ytdonmboidpppmaa
