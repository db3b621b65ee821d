/- A field as numbers of cells, and a charge that is left at the corners around a place. -/
import Derived.Test.YtnmdgbnophclnaaGi
import Derived.Test.YtnmdgbnophclnaaGg
import Derived.Deep.RegionHeld
import Derived.BigQuiet
namespace Go.Proofs.Ytnmdgbnophclnaa
open Go.RowKit Go.Sort Ieee
set_option linter.unusedSimpArgs false

/-- The cells of a field, of numbers n / 2^k. -/
def fCells (k : Nat) (fs : List Int) : Array Value := (fs.map fun n => Value.float .f32 (wd single k n)).toArray
theorem fCells_size (k : Nat) (fs : List Int) : (fCells k fs).size = fs.length := by simp [fCells]
theorem fCells_at (k : Nat) (fs : List Int) (i : Nat) (h : i < fs.length) : (fCells k fs)[i]? = some (.float .f32 (wd single k fs[i])) := by
  unfold fCells
  rw [List.getElem?_toArray, List.getElem?_map, List.getElem?_eq_getElem h]
  rfl
def addAt (fs : List Int) (c : Nat) (d : Int) : List Int := fs.set c (fs.getD c 0 + d)
theorem addAt_length (fs : List Int) (c : Nat) (d : Int) : (addAt fs c d).length = fs.length := List.length_set
theorem fCells_set (k : Nat) (fs : List Int) (c : Nat) (n : Int) : (fCells k fs).setIfInBounds c (.float .f32 (wd single k n)) = fCells k (fs.set c n) := by
  unfold fCells
  rw [List.map_set, List.setIfInBounds_toArray]
/-- What a charge leaves at corners. -/
def depF (q : Int) (cs : List (Nat × Int)) (fs : List Int) : List Int := cs.foldl (fun fs c => addAt fs c.1 (q * c.2)) fs
theorem depF_length (q : Int) (cs : List (Nat × Int)) : ∀ fs : List Int, (depF q cs fs).length = fs.length := by
  induction cs with
  | nil => intro fs; rfl
  | cons c cs ih => intro fs; unfold depF at *; rw [List.foldl_cons, ih, addAt_length]
theorem depF_take (q : Int) (cs : List (Nat × Int)) (fs : List Int) (i : Nat) (h : i < cs.length) : depF q (cs.take (i + 1)) fs = addAt (depF q (cs.take i) fs) cs[i].1 (q * cs[i].2) := by
  unfold depF
  rw [List.take_succ_eq_append_getElem h, List.foldl_append]
  rfl
def Small (fs : List Int) (M : Nat) : Prop := ∀ n ∈ fs, n.natAbs ≤ M
theorem Small.at {fs : List Int} {M : Nat} (h : Small fs M) (c : Nat) : (fs.getD c 0).natAbs ≤ M := by
  by_cases hc : c < fs.length
  · rw [List.getD_eq_getElem?_getD, List.getElem?_eq_getElem hc]
    exact h _ (List.getElem_mem hc)
  · rw [List.getD_eq_getElem?_getD, List.getElem?_eq_none (by omega)]
    exact Nat.zero_le _
theorem Small.add {fs : List Int} {M K : Nat} (h : Small fs M) (c : Nat) (d : Int) (hd : d.natAbs ≤ K) : Small (addAt fs c d) (M + K) := by
  intro n hn
  rcases List.mem_or_eq_of_mem_set hn with h1 | rfl
  · exact Nat.le_trans (h n h1) (by omega)
  · have := h.at c
    omega
theorem Small.dep {q : Int} (hq : q.natAbs ≤ 4) : ∀ (cs : List (Nat × Int)), (∀ c ∈ cs, c.2.natAbs ≤ 64) → ∀ {fs : List Int} {M : Nat}, Small fs M → Small (depF q cs fs) (M + 256 * cs.length)
  | [], _, fs, M, h => h
  | c :: cs, hc, fs, M, h => by
    have h1 : (q * c.2).natAbs ≤ 256 := by
      rw [Int.natAbs_mul]
      exact Nat.mul_le_mul (m₂ := 64) hq (hc c (List.mem_cons_self ..))
    have h2 := Small.dep hq cs (fun x hx => hc x (List.mem_cons_of_mem _ hx)) (h.add c.1 (q * c.2) h1)
    intro n hn
    have := h2 n hn
    rw [List.length_cons]
    omega

/-- The corners around a place, with their shares. -/
def cornersL (W H : Nat) (x y : Int) : List (Nat × Int) :=
  [((idx W H (md x W / 8) (md y H / 8)).toNat, (8 - frac x W) * (8 - frac y H)), ((idx W H (md x W / 8 + 1) (md y H / 8)).toNat, frac x W * (8 - frac y H)), ((idx W H (md x W / 8) (md y H / 8 + 1)).toNat, (8 - frac x W) * frac y H), ((idx W H (md x W / 8 + 1) (md y H / 8 + 1)).toNat, frac x W * frac y H)]

theorem idx_nat (W H : Nat) (h : Sides W H) (x y : Int) : ∃ c : Nat, idx W H x y = c ∧ c < W * H := by
  obtain ⟨⟨h1, h2⟩, h3, h4⟩ := h
  have b0 := Int.emod_nonneg x (show (W : Int) ≠ 0 by omega)
  have b1 := Int.emod_lt_of_pos x (show (0 : Int) < (W : Int) by omega)
  have b2 := Int.emod_nonneg y (show (H : Int) ≠ 0 by omega)
  have b3 := Int.emod_lt_of_pos y (show (0 : Int) < (H : Int) by omega)
  have t0 : 0 ≤ (W : Int) * (y % (H : Int)) := Int.mul_nonneg (by omega) b2
  have t1 : (W : Int) * (y % (H : Int)) ≤ (W : Int) * ((H : Int) - 1) := Int.mul_le_mul_of_nonneg_left (by omega) (by omega)
  have t2 : (W : Int) * ((H : Int) - 1) = (W : Int) * (H : Int) - W := by rw [Int.mul_sub, Int.mul_one]
  have t3 : ((W * H : Nat) : Int) = (W : Int) * (H : Int) := Int.natCast_mul ..
  refine ⟨(idx W H x y).toNat, ?_, ?_⟩
  · unfold idx; omega
  · unfold idx; omega
theorem natAbs_mul_le {a b : Int} {m n : Nat} (ha : a.natAbs ≤ m) (hb : b.natAbs ≤ n) : (a * b).natAbs ≤ m * n := by
  rw [Int.natAbs_mul]
  exact Nat.mul_le_mul ha hb
theorem share_le (f h : Int) (f0 : 0 ≤ f) (f8 : f ≤ 8) (h0 : 0 ≤ h) (h8 : h ≤ 8) : 0 ≤ f * h ∧ (f * h).natAbs ≤ 64 :=
  ⟨Int.mul_nonneg f0 h0, natAbs_mul_le (m := 8) (n := 8) (by omega) (by omega)⟩
theorem cornersL_share (W H : Nat) (x y : Int) : ∀ c ∈ cornersL W H x y, 0 ≤ c.2 ∧ c.2.natAbs ≤ 64 := by
  have f0 : 0 ≤ frac x W := by unfold frac; omega
  have f8 : frac x W < 8 := by unfold frac; omega
  have h0 : 0 ≤ frac y H := by unfold frac; omega
  have h8 : frac y H < 8 := by unfold frac; omega
  intro c hc
  simp only [cornersL, List.mem_cons, List.not_mem_nil, or_false] at hc
  rcases hc with rfl | rfl | rfl | rfl
  · exact share_le _ _ (by omega) (by omega) (by omega) (by omega)
  · exact share_le _ _ (by omega) (by omega) (by omega) (by omega)
  · exact share_le _ _ (by omega) (by omega) (by omega) (by omega)
  · exact share_le _ _ (by omega) (by omega) (by omega) (by omega)

/-- A product of a charge and a share, added to a number. -/
theorem charge_step (F q s : Int) (hF : F.natAbs ≤ 1000000) (hq : q.natAbs ≤ 4) (hs : s.natAbs ≤ 64) : ∃ r, floatBits .mul .f32 (wd single 1 q) (wd single 6 s) = some r ∧ floatBits .add .f32 (wd single 7 F) r = some (wd single 7 (F + q * s)) := by
  have hb : (q * s).natAbs ≤ 256 := by
    rw [Int.natAbs_mul]
    exact Nat.mul_le_mul (m₂ := 64) hq hs
  obtain ⟨r, e, hr, hl⟩ := mul_is (f := single) fit_single binade_le_single (k := 1) (l := 6) (a := q) (b := s) (by decide) (by decide) (by decide) (by show q.natAbs < 16777216; omega) (by show s.natAbs < 16777216; omega) (by show (q * s).natAbs < 16777216; omega)
  exact ⟨r, e, add_is (f := single) fit_single binade_le_single hr hl (by decide) (by show F.natAbs < 16777216; omega) (by show (q * s).natAbs < 16777216; omega) (by show (F + q * s).natAbs < 16777216; omega)⟩

theorem gb_row' (w : World) (g o : Nat) (u : Value) : w.grownBy (w.setCell ⟨g, o, none⟩ u) (some g) :=
  ⟨rfl, rfl, rfl, by simp [World.setCell], fun k _ hne => Below.heap_setCell w ⟨g, o, none⟩ u k (fun e => hne (by rw [e]))⟩
theorem run_ix (vs : Array Value) (i : Nat) (v : Value) (hi : i < 4) (h : vs[i]? = some v) (w : World) : (Instr.index 174 (.agg vs) (.int .i64 i)).run Try.prog w = .ok v w := by
  have h1 : (0 : Int) ≤ (i : Int) ∧ (i : Int) < 4 := by omega
  simp [Instr.index, run_underlying Try.underlying174, asIntOf, h1, part, h, go_sem]
  intro hc
  omega

theorem dep_fact (q : Int) (hq : q.natAbs ≤ 4) (cur : List Int) (c : Nat) (s : Int) (M : Nat) (hs : s.natAbs ≤ 64) (hM : Small cur M) (hM2 : M ≤ 1000000) (hc : c < cur.length) :
    ∃ (F : Int) (r : Nat), (fCells 7 cur)[c]? = some (.float .f32 (wd single 7 F)) ∧ floatBits .mul .f32 (wd single 1 q) (wd single 6 s) = some r ∧ floatBits .add .f32 (wd single 7 F) r = some (wd single 7 (F + q * s)) ∧ (fCells 7 cur).setIfInBounds c (.float .f32 (wd single 7 (F + q * s))) = fCells 7 (addAt cur c (q * s)) := by
  have FA := hM.at c
  obtain ⟨r, e1, e2⟩ := charge_step (cur.getD c 0) q s (by omega) hq hs
  refine ⟨cur.getD c 0, r, ?_, e1, e2, ?_⟩
  · rw [fCells_at 7 cur c hc, List.getD_eq_getElem?_getD, List.getElem?_eq_getElem hc]; rfl
  · rw [fCells_set]; rfl

set_option maxHeartbeats 4000000 in
set_option maxRecDepth 20000 in
theorem deposit_ok (W H : Nat) (h : Sides W H) (x y : Int) (hp : PlaceOk x y) (q : Int) (hq : q.natAbs ≤ 4) (g : Nat) (fs : List Int) (hl : fs.length = W * H) (M : Nat) (hM : Small fs M) (hM2 : M ≤ 900000) (w : World) (hh : Has w g 27 (fCells 7 fs)) :
    Calls Try.prog 126 #[gridV W H, .slice (some ⟨g, 0, none⟩) fs.length fs.length, placeV x y, .float .f32 (wd single 1 q)] w fun e w' => e = .returned (.tuple #[]) ∧ Has w' g 27 (fCells 7 (depF q (cornersL W H x y) fs)) ∧ w.grownBy w' (some g) := by
  have SH := keep (fun w => shares_ok W H h x y hp w)
  have CS := cornersL_share W H x y
  unfold cornersV sharesV at SH
  unfold cornersL at *
  obtain ⟨c0, e0, l0⟩ := idx_nat W H h (md x W / 8) (md y H / 8)
  obtain ⟨c1, e1, l1⟩ := idx_nat W H h (md x W / 8 + 1) (md y H / 8)
  obtain ⟨c2, e2, l2⟩ := idx_nat W H h (md x W / 8) (md y H / 8 + 1)
  obtain ⟨c3, e3, l3⟩ := idx_nat W H h (md x W / 8 + 1) (md y H / 8 + 1)
  simp only [e0, e1, e2, e3, Int.toNat_natCast] at SH CS ⊢
  generalize (8 - frac x W) * (8 - frac y H) = s0 at *
  generalize frac x W * (8 - frac y H) = s1 at *
  generalize (8 - frac x W) * frac y H = s2 at *
  generalize frac x W * frac y H = s3 at *
  rw [← hl] at l0 l1 l2 l3
  have lg := hh.in_heap
  have HH := keep hh
  have G0 := keep (gb_alloc (World.grownBy.refl w (some g)) (.cells #[.int .i64 W, .int .i64 H] 25))
  have H0 := keep (hh.beside (.cells #[.int .i64 W, .int .i64 H] 25))
  have SM := keep (fun i => Small.dep hq ([(c0, s0), (c1, s1), (c2, s2), (c3, s3)].take i) (fun c hc => (CS c (List.mem_of_mem_take hc)).2) hM)
  have CH := keep (fun cur c s M => dep_fact q hq cur c s M)
  clear hp h e0 e1 e2 e3 hh hl hM hq
  unfold gridV placeV at *
  go_enter Try.func126, Try.ntmps126
  go_wp2_with fail
  refine (SH.out _).mono ?_
  rintro e w1 ⟨rfl, hb⟩
  have G1 := keep (gb_below G0.out hb (by simp))
  have H1 := keep (H0.out.after hb)
  clear hb G0 H0 SH HH
  go_wp2_with fail
  have P5 := keep ((Has.made (w1.alloc (.cells #[.int .i64 c0, .int .i64 c1, .int .i64 c2, .int .i64 c3] 174)) 175 #[.float .f32 (wd single 6 s0), .float .f32 (wd single 6 s1), .float .f32 (wd single 6 s2), .float .f32 (wd single 6 s3)]))
  have G2 := keep (gb_alloc (gb_alloc G1.out (.cells #[.int .i64 c0, .int .i64 c1, .int .i64 c2, .int .i64 c3] 174)) (.cells #[.float .f32 (wd single 6 s0), .float .f32 (wd single 6 s1), .float .f32 (wd single 6 s2), .float .f32 (wd single 6 s3)] 175))
  have H2 := keep ((H1.out.beside (.cells #[.int .i64 c0, .int .i64 c1, .int .i64 c2, .int .i64 c3] 174)).beside (.cells #[.float .f32 (wd single 6 s0), .float .f32 (wd single 6 s1), .float .f32 (wd single 6 s2), .float .f32 (wd single 6 s3)] 175))
  have l1g := H1.out.in_heap
  simp only [World.size_alloc] at P5
  clear G1 H1
  go_loopw [19] (fun s wr => ∃ k : Nat, k ≤ 4 ∧ s = .int .i64 k ∧ Kept (Has wr g 27 (fCells 7 (depF q ([(c0, s0), (c1, s1), (c2, s2), (c3, s3)].take k) fs))) ∧ Kept (Has wr (w1.heap.size + 1) 175 #[.float .f32 (wd single 6 s0), .float .f32 (wd single 6 s1), .float .f32 (wd single 6 s2), .float .f32 (wd single 6 s3)]) ∧ Kept (w.grownBy wr (some g))) (fun s _ => 4 - (intOf s).toNat)
  case atStart => exact ⟨0, by omega, rfl, H2, P5, G2⟩
  case round =>
    clear P5 G2 H2
    obtain ⟨k, hk, rfl, hg, h5, hgr⟩ := hrel
    have hks : k = 0 ∨ k = 1 ∨ k = 2 ∨ k = 3 ∨ k = 4 := by omega
    rcases hks with rfl | rfl | rfl | rfl | rfl
    · have ht := keep (depF_take q [(c0, s0), (c1, s1), (c2, s2), (c3, s3)] fs 0 (by simp))
      have hln : (depF q ([(c0, s0), (c1, s1), (c2, s2), (c3, s3)].take 0) fs).length = fs.length := depF_length _ _ _
      obtain ⟨F, r, z1, e1, e2, z4⟩ := CH.out (depF q ([(c0, s0), (c1, s1), (c2, s2), (c3, s3)].take 0) fs) c0 s0 _ (CS (c0, s0) (by simp)).2 (SM.out 0) (by simp; omega) (by omega)
      generalize depF q ([(c0, s0), (c1, s1), (c2, s2), (c3, s3)].take 0) fs = cur at *
      have z1 := (hg.out.cells c0).trans z1
      have z2 := hg.out.free c0
      have z3 := h5.out.cells 0
      have f1 := frun e1
      have f2 := frun e2
      have Z4 := keep z4
      have lg2 := hg.out.in_heap
      have l52 := h5.out.in_heap
      have ix : ∀ w, (Instr.index 174 (.agg #[.int .i64 c0, .int .i64 c1, .int .i64 c2, .int .i64 c3]) (.int .i64 0)).run Try.prog w = .ok (.int .i64 c0) w := fun w => run_ix _ 0 _ (by omega) rfl w
      clear e1 e2 z4 CS SM CH hln
      go_wp2_with fail
      clear ix
      go_region
      go_wp2_with fail
      go_roundw
      case rel => exact ⟨1, by omega, rfl, keep (by
        rw [ht.out]
        show Has _ g 27 (fCells 7 (addAt cur c0 (q * s0)))
        rw [← Z4.out]
        exact (hg.out.written c0 _).draws _), keep ((h5.out.elsewhere (p := ⟨g, c0, none⟩) (by show w1.heap.size + 1 ≠ g; omega) _).draws _), keep (gb_below (gb_trans hgr.out (gb_row' _ g c0 _)) (Below.drewN w.heap.size _ _) (Nat.le_refl _))⟩
      case measure => simp [intOf]
    · have ht := keep (depF_take q [(c0, s0), (c1, s1), (c2, s2), (c3, s3)] fs 1 (by simp))
      have hln : (depF q ([(c0, s0), (c1, s1), (c2, s2), (c3, s3)].take 1) fs).length = fs.length := depF_length _ _ _
      obtain ⟨F, r, z1, e1, e2, z4⟩ := CH.out (depF q ([(c0, s0), (c1, s1), (c2, s2), (c3, s3)].take 1) fs) c1 s1 _ (CS (c1, s1) (by simp)).2 (SM.out 1) (by simp; omega) (by omega)
      generalize depF q ([(c0, s0), (c1, s1), (c2, s2), (c3, s3)].take 1) fs = cur at *
      have z1 := (hg.out.cells c1).trans z1
      have z2 := hg.out.free c1
      have z3 := h5.out.cells 1
      have f1 := frun e1
      have f2 := frun e2
      have Z4 := keep z4
      have lg2 := hg.out.in_heap
      have l52 := h5.out.in_heap
      have ix : ∀ w, (Instr.index 174 (.agg #[.int .i64 c0, .int .i64 c1, .int .i64 c2, .int .i64 c3]) (.int .i64 1)).run Try.prog w = .ok (.int .i64 c1) w := fun w => run_ix _ 1 _ (by omega) rfl w
      clear e1 e2 z4 CS SM CH hln
      go_wp2_with fail
      clear ix
      go_region
      go_wp2_with fail
      go_roundw
      case rel => exact ⟨2, by omega, rfl, keep (by
        rw [ht.out]
        show Has _ g 27 (fCells 7 (addAt cur c1 (q * s1)))
        rw [← Z4.out]
        exact (hg.out.written c1 _).draws _), keep ((h5.out.elsewhere (p := ⟨g, c1, none⟩) (by show w1.heap.size + 1 ≠ g; omega) _).draws _), keep (gb_below (gb_trans hgr.out (gb_row' _ g c1 _)) (Below.drewN w.heap.size _ _) (Nat.le_refl _))⟩
      case measure => simp [intOf]
    · have ht := keep (depF_take q [(c0, s0), (c1, s1), (c2, s2), (c3, s3)] fs 2 (by simp))
      have hln : (depF q ([(c0, s0), (c1, s1), (c2, s2), (c3, s3)].take 2) fs).length = fs.length := depF_length _ _ _
      obtain ⟨F, r, z1, e1, e2, z4⟩ := CH.out (depF q ([(c0, s0), (c1, s1), (c2, s2), (c3, s3)].take 2) fs) c2 s2 _ (CS (c2, s2) (by simp)).2 (SM.out 2) (by simp; omega) (by omega)
      generalize depF q ([(c0, s0), (c1, s1), (c2, s2), (c3, s3)].take 2) fs = cur at *
      have z1 := (hg.out.cells c2).trans z1
      have z2 := hg.out.free c2
      have z3 := h5.out.cells 2
      have f1 := frun e1
      have f2 := frun e2
      have Z4 := keep z4
      have lg2 := hg.out.in_heap
      have l52 := h5.out.in_heap
      have ix : ∀ w, (Instr.index 174 (.agg #[.int .i64 c0, .int .i64 c1, .int .i64 c2, .int .i64 c3]) (.int .i64 2)).run Try.prog w = .ok (.int .i64 c2) w := fun w => run_ix _ 2 _ (by omega) rfl w
      clear e1 e2 z4 CS SM CH hln
      go_wp2_with fail
      clear ix
      go_region
      go_wp2_with fail
      go_roundw
      case rel => exact ⟨3, by omega, rfl, keep (by
        rw [ht.out]
        show Has _ g 27 (fCells 7 (addAt cur c2 (q * s2)))
        rw [← Z4.out]
        exact (hg.out.written c2 _).draws _), keep ((h5.out.elsewhere (p := ⟨g, c2, none⟩) (by show w1.heap.size + 1 ≠ g; omega) _).draws _), keep (gb_below (gb_trans hgr.out (gb_row' _ g c2 _)) (Below.drewN w.heap.size _ _) (Nat.le_refl _))⟩
      case measure => simp [intOf]
    · have ht := keep (depF_take q [(c0, s0), (c1, s1), (c2, s2), (c3, s3)] fs 3 (by simp))
      have hln : (depF q ([(c0, s0), (c1, s1), (c2, s2), (c3, s3)].take 3) fs).length = fs.length := depF_length _ _ _
      obtain ⟨F, r, z1, e1, e2, z4⟩ := CH.out (depF q ([(c0, s0), (c1, s1), (c2, s2), (c3, s3)].take 3) fs) c3 s3 _ (CS (c3, s3) (by simp)).2 (SM.out 3) (by simp; omega) (by omega)
      generalize depF q ([(c0, s0), (c1, s1), (c2, s2), (c3, s3)].take 3) fs = cur at *
      have z1 := (hg.out.cells c3).trans z1
      have z2 := hg.out.free c3
      have z3 := h5.out.cells 3
      have f1 := frun e1
      have f2 := frun e2
      have Z4 := keep z4
      have lg2 := hg.out.in_heap
      have l52 := h5.out.in_heap
      have ix : ∀ w, (Instr.index 174 (.agg #[.int .i64 c0, .int .i64 c1, .int .i64 c2, .int .i64 c3]) (.int .i64 3)).run Try.prog w = .ok (.int .i64 c3) w := fun w => run_ix _ 3 _ (by omega) rfl w
      clear e1 e2 z4 CS SM CH hln
      go_wp2_with fail
      clear ix
      go_region
      go_wp2_with fail
      go_roundw
      case rel => exact ⟨4, by omega, rfl, keep (by
        rw [ht.out]
        show Has _ g 27 (fCells 7 (addAt cur c3 (q * s3)))
        rw [← Z4.out]
        exact (hg.out.written c3 _).draws _), keep ((h5.out.elsewhere (p := ⟨g, c3, none⟩) (by show w1.heap.size + 1 ≠ g; omega) _).draws _), keep (gb_below (gb_trans hgr.out (gb_row' _ g c3 _)) (Below.drewN w.heap.size _ _) (Nat.le_refl _))⟩
      case measure => simp [intOf]
    · have hg4 := hg.out
      simp only [List.take_succ_cons, List.take_zero] at hg4
      have HG := keep hg4
      clear hg4 CS SM CH
      go_wp2_with fail
      go_end0
      exact ⟨rfl, HG.out, hgr.out⟩
end Go.Proofs.Ytnmdgbnophclnaa
