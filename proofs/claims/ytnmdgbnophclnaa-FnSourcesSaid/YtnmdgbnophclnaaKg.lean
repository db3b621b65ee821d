/- Plain law: charges are neither lost nor made, and what is moved by whole cells leaves what is moved by these. No program. -/
import Derived.Test.YtnmdgbnophclnaaKf
namespace Go.Proofs.Ytnmdgbnophclnaa
open Go.RowKit Go.Sort Ieee
set_option linter.unusedVariables false

theorem addAt_getD (fs : List Int) (c : Nat) (d : Int) (k : Nat) (hk : k < fs.length) : (addAt fs c d).getD k 0 = fs.getD k 0 + (if c = k then d else 0) := by
  unfold addAt
  by_cases h : c = k
  · subst h
    rw [if_pos rfl, List.getD_eq_getElem?_getD, List.getElem?_set_self hk]
    rfl
  · rw [if_neg h, List.getD_eq_getElem?_getD, List.getElem?_set_ne h, List.getD_eq_getElem?_getD]
    omega
/-- What charges at corners bring to a cell. -/
def contrib (q : Int) (cs : List (Nat × Int)) (k : Nat) : Int := (cs.map fun c => if c.1 = k then q * c.2 else 0).sum
theorem depF_getD (q : Int) : ∀ (cs : List (Nat × Int)) (fs : List Int) (k : Nat), k < fs.length → (depF q cs fs).getD k 0 = fs.getD k 0 + contrib q cs k
  | [], fs, k, _ => by simp [depF, contrib]
  | c :: cs, fs, k, hk => by
    have h := depF_getD q cs (addAt fs c.1 (q * c.2)) k (by rw [addAt_length]; exact hk)
    rw [addAt_getD _ _ _ _ hk] at h
    show (depF q cs (addAt fs c.1 (q * c.2))).getD k 0 = _
    rw [h]
    unfold contrib
    rw [List.map_cons, List.sum_cons]
    omega
def contribAll (W H : Nat) (gs : List GP) (k : Nat) : Int := (gs.map fun p => contrib p.q (cornersL W H p.x p.y) k).sum
theorem depAll_getD (W H : Nat) (gs : List GP) (k : Nat) (hk : k < W * H) : (depAll W H gs).getD k 0 = contribAll W H gs k := by
  unfold depAll
  have h : ∀ (gs : List GP) (fs : List Int), fs.length = W * H → (gs.foldl (fun fs p => depF p.q (cornersL W H p.x p.y) fs) fs).getD k 0 = fs.getD k 0 + contribAll W H gs k := by
    intro gs
    induction gs with
    | nil => intro fs _; simp [contribAll]
    | cons p gs ih =>
      intro fs hl
      rw [List.foldl_cons, ih _ (by rw [depF_length]; exact hl), depF_getD _ _ _ _ (by omega)]
      unfold contribAll
      rw [List.map_cons, List.sum_cons]
      omega
  rw [h gs _ (List.length_replicate ..)]
  have e : (List.replicate (W * H) (0 : Int)).getD k 0 = 0 := by
    rw [List.getD_eq_getElem?_getD, List.getElem?_replicate, if_pos hk]
    rfl
  rw [e]
  omega

theorem idx_eq (W H : Nat) (hW : 0 < W) (hH : 0 < H) (a b c d : Int) : idx W H a b = idx W H c d ↔ a % (W : Int) = c % (W : Int) ∧ b % (H : Int) = d % (H : Int) := by
  constructor
  · intro h
    unfold idx at h
    have m : ∀ x y : Int, (x % (W : Int) + (W : Int) * (y % (H : Int))) % (W : Int) = x % (W : Int) := fun x y => by
      rw [Int.add_mul_emod_self_left]; exact Int.emod_emod_of_dvd x (Int.dvd_refl _)
    have dv : ∀ x y : Int, (x % (W : Int) + (W : Int) * (y % (H : Int))) / (W : Int) = y % (H : Int) := fun x y => by
      rw [Int.add_mul_ediv_left _ _ (by omega), Int.ediv_eq_zero_of_lt (Int.emod_nonneg _ (by omega)) (Int.emod_lt_of_pos _ (by omega)), Int.zero_add]
    have h1 := congrArg (· % (W : Int)) h
    have h2 := congrArg (· / (W : Int)) h
    simp only [m, dv] at h1 h2
    exact ⟨h1, h2⟩
  · rintro ⟨h1, h2⟩
    unfold idx
    rw [h1, h2]
theorem md_cell (x : Int) (W : Nat) (hW : 0 < W) : md x W / 8 = x / 8 % (W : Int) := by
  unfold md
  have e := Int.mul_ediv_add_emod x (8 * (W : Int))
  have r0 := Int.emod_nonneg x (show (8 * (W : Int)) ≠ 0 by omega)
  have r1 := Int.emod_lt_of_pos x (show 0 < 8 * (W : Int) by omega)
  generalize x % (8 * (W : Int)) = r at *
  generalize x / (8 * (W : Int)) = q at *
  rw [Int.mul_assoc] at e
  have e2 : x / 8 = (W : Int) * q + r / 8 := by omega
  rw [e2, Int.add_comm, Int.add_mul_emod_self_left]
  exact (Int.emod_eq_of_lt (by omega) (by omega)).symm
theorem frac_cell (x : Int) (W : Nat) : frac x W = x % 8 := by
  unfold frac md
  exact Int.emod_emod_of_dvd x (Int.dvd_mul_right 8 _)
theorem idx_nonneg (W H : Nat) (hW : 0 < W) (hH : 0 < H) (a b : Int) : 0 ≤ idx W H a b := by
  unfold idx
  have h1 := Int.emod_nonneg a (show (W : Int) ≠ 0 by omega)
  have h2 := Int.mul_nonneg (show 0 ≤ (W : Int) by omega) (Int.emod_nonneg b (show (H : Int) ≠ 0 by omega))
  omega
theorem idx_nat_eq (W H : Nat) (hW : 0 < W) (hH : 0 < H) (a b c d : Int) : (idx W H a b).toNat = (idx W H c d).toNat ↔ a % (W : Int) = c % (W : Int) ∧ b % (H : Int) = d % (H : Int) := by
  rw [← idx_eq W H hW hH]
  have h1 := idx_nonneg W H hW hH a b
  have h2 := idx_nonneg W H hW hH c d
  omega
theorem mod_shift (a i X u : Int) (W : Nat) (hW : 0 < W) : ((a + X) % (W : Int) + i) % (W : Int) = u % (W : Int) ↔ (a % (W : Int) + i) % (W : Int) = (u - X) % (W : Int) := by
  rw [Int.emod_add_emod, Int.emod_add_emod]
  constructor
  · intro h
    have := Int.emod_emod_of_dvd 0 (Int.dvd_refl (W : Int))
    have h2 : ((a + X + i) - X) % (W : Int) = (u - X) % (W : Int) := by rw [Int.sub_emod, h, ← Int.sub_emod]
    rw [show a + X + i - X = a + i by omega] at h2
    exact h2
  · intro h
    have h2 : ((a + i) + X) % (W : Int) = ((u - X) + X) % (W : Int) := by rw [Int.add_emod, h, ← Int.add_emod]
    rw [show a + i + X = a + X + i by omega, show u - X + X = u by omega] at h2
    exact h2

theorem contrib_shift (W H : Nat) (hW : 0 < W) (hH : 0 < H) (X Y : Int) (p : GP) (u v : Int) :
    contrib (shiftG W H X Y p).q (cornersL W H (shiftG W H X Y p).x (shiftG W H X Y p).y) (idx W H u v).toNat = contrib p.q (cornersL W H p.x p.y) (idx W H (u - X) (v - Y)).toNat := by
  have f1 : frac (md (p.x + 8 * X) W) W = frac p.x W := by
    rw [frac_cell, frac_cell]
    unfold md
    rw [Int.emod_emod_of_dvd _ (Int.dvd_mul_right 8 _)]
    omega
  have f2 : frac (md (p.y + 8 * Y) H) H = frac p.y H := by
    rw [frac_cell, frac_cell]
    unfold md
    rw [Int.emod_emod_of_dvd _ (Int.dvd_mul_right 8 _)]
    omega
  have i1 : ∀ x : Int, md (md x W) W = md x W := fun x => by unfold md; exact Int.emod_emod_of_dvd x (Int.dvd_refl _)
  have i2 : ∀ x : Int, md (md x H) H = md x H := fun x => by unfold md; exact Int.emod_emod_of_dvd x (Int.dvd_refl _)
  have c1 : md (p.x + 8 * X) W / 8 = (p.x / 8 + X) % (W : Int) := by rw [md_cell _ _ hW]; congr 1; omega
  have c2 : md (p.y + 8 * Y) H / 8 = (p.y / 8 + Y) % (H : Int) := by rw [md_cell _ _ hH]; congr 1; omega
  have key : ∀ i j : Int, ((idx W H ((p.x / 8 + X) % (W : Int) + i) ((p.y / 8 + Y) % (H : Int) + j)).toNat = (idx W H u v).toNat) = ((idx W H (p.x / 8 % (W : Int) + i) (p.y / 8 % (H : Int) + j)).toNat = (idx W H (u - X) (v - Y)).toNat) := fun i j => by
    apply propext
    rw [idx_nat_eq W H hW hH, idx_nat_eq W H hW hH, mod_shift _ _ _ _ _ hW, mod_shift _ _ _ _ _ hH]
  have k00 := key 0 0
  have k10 := key 1 0
  have k01 := key 0 1
  have k11 := key 1 1
  simp only [Int.add_zero] at k00 k10 k01
  unfold contrib cornersL shiftG
  simp only [List.map_cons, List.map_nil, i1, i2, f1, f2, c1, c2, md_cell p.x W hW, md_cell p.y H hH, k00, k10, k01, k11]

theorem shift_law (W H : Nat) (hW : 0 < W) (hH : 0 < H) (X Y : Int) (gs : List GP) : depAll W H (gs.map (shiftG W H X Y)) = shiftF W H X Y (depAll W H gs) := by
  have hl : (depAll W H gs).length = W * H := depAll_length W H gs
  apply List.ext_getElem?
  intro k
  by_cases hk : k < W * H
  · have hu : k % W < W := Nat.mod_lt _ hW
    have hv : k / W < H := by rw [Nat.div_lt_iff_lt_mul hW, Nat.mul_comm H W]; exact hk
    have ek : k / W * W + k % W = k := by rw [Nat.mul_comm]; exact Nat.div_add_mod k W
    have e1 := shiftF_at W H X Y (depAll W H gs) (k % W) (k / W) hu hv
    rw [ek] at e1
    rw [e1]
    have e2 := depAll_getD W H (gs.map (shiftG W H X Y)) k hk
    have ki := idx_in W H (k % W) (k / W) hu hv
    rw [ek] at ki
    have e3 : (depAll W H gs).getD (idx W H (((k % W : Nat) : Int) - X) (((k / W : Nat) : Int) - Y)).toNat 0 = contribAll W H gs (idx W H (((k % W : Nat) : Int) - X) (((k / W : Nat) : Int) - Y)).toNat := by
      refine depAll_getD W H gs _ ?_
      have b0 := Int.emod_nonneg (((k % W : Nat) : Int) - X) (show (W : Int) ≠ 0 by omega)
      have b1 := Int.emod_lt_of_pos (((k % W : Nat) : Int) - X) (show (0 : Int) < (W : Int) by omega)
      have b2 := Int.emod_nonneg (((k / W : Nat) : Int) - Y) (show (H : Int) ≠ 0 by omega)
      have b3 := Int.emod_lt_of_pos (((k / W : Nat) : Int) - Y) (show (0 : Int) < (H : Int) by omega)
      have t0 : 0 ≤ (W : Int) * ((((k / W : Nat) : Int) - Y) % (H : Int)) := Int.mul_nonneg (by omega) b2
      have t1 : (W : Int) * ((((k / W : Nat) : Int) - Y) % (H : Int)) ≤ (W : Int) * ((H : Int) - 1) := Int.mul_le_mul_of_nonneg_left (by omega) (by omega)
      have t2 : (W : Int) * ((H : Int) - 1) = (W : Int) * (H : Int) - W := by rw [Int.mul_sub, Int.mul_one]
      have t3 : ((W * H : Nat) : Int) = (W : Int) * (H : Int) := Int.natCast_mul ..
      unfold idx
      omega
    rw [e3]
    have e4 : contribAll W H (gs.map (shiftG W H X Y)) k = contribAll W H gs (idx W H (((k % W : Nat) : Int) - X) (((k / W : Nat) : Int) - Y)).toNat := by
      unfold contribAll
      rw [List.map_map]
      congr 1
      refine List.map_congr_left fun p _ => ?_
      have e5 := contrib_shift W H hW hH X Y p ((k % W : Nat) : Int) ((k / W : Nat) : Int)
      rw [ki, Int.toNat_natCast] at e5
      exact e5
    rw [← e4, ← e2]
    have hlen : (depAll W H (gs.map (shiftG W H X Y))).length = W * H := depAll_length W H _
    rw [List.getD_eq_getElem?_getD, List.getElem?_eq_getElem (by omega)]
    rfl
  · rw [List.getElem?_eq_none (by rw [depAll_length]; omega), List.getElem?_eq_none (by rw [shiftF_length]; omega)]

theorem sum_addAt : ∀ (fs : List Int) (c : Nat) (d : Int), c < fs.length → sumL (addAt fs c d) = sumL fs + d
  | a :: fs, 0, d, _ => by simp [addAt, sumL]; omega
  | a :: fs, c + 1, d, h => by
    have h1 : c < fs.length := by simpa using h
    have := sum_addAt fs c d h1
    unfold addAt sumL at *
    simp only [List.getD_cons_succ, List.set_cons_succ, List.sum_cons]
    omega
theorem sum_depF (q : Int) : ∀ (cs : List (Nat × Int)) (fs : List Int), (∀ c ∈ cs, c.1 < fs.length) → sumL (depF q cs fs) = sumL fs + q * (cs.map Prod.snd).sum
  | [], fs, _ => by simp [depF]
  | c :: cs, fs, h => by
    have h1 := sum_depF q cs (addAt fs c.1 (q * c.2)) (fun x hx => by rw [addAt_length]; exact h x (List.mem_cons_of_mem _ hx))
    rw [sum_addAt fs c.1 (q * c.2) (h c (List.mem_cons_self ..))] at h1
    show sumL (depF q cs (addAt fs c.1 (q * c.2))) = _
    rw [h1, List.map_cons, List.sum_cons, Int.mul_add]
    omega
theorem corners_sum (W H : Nat) (x y : Int) : ((cornersL W H x y).map Prod.snd).sum = 64 := by
  unfold cornersL
  simp only [List.map_cons, List.map_nil, List.sum_cons, List.sum_nil]
  have e1 : (8 - frac x W) * (8 - frac y H) + frac x W * (8 - frac y H) = 8 * (8 - frac y H) := by rw [← Int.add_mul]; congr 1; omega
  have e2 : (8 - frac x W) * frac y H + frac x W * frac y H = 8 * frac y H := by rw [← Int.add_mul]; congr 1; omega
  omega
theorem corners_in (W H : Nat) (h : Sides W H) (x y : Int) : ∀ c ∈ cornersL W H x y, c.1 < W * H := by
  intro c hc
  simp only [cornersL, List.mem_cons, List.not_mem_nil, or_false] at hc
  rcases hc with rfl | rfl | rfl | rfl
  all_goals
    simp only
    first
      | (obtain ⟨n, e, l⟩ := idx_nat W H h (md x W / 8) (md y H / 8); rw [e, Int.toNat_natCast]; exact l)
      | (obtain ⟨n, e, l⟩ := idx_nat W H h (md x W / 8 + 1) (md y H / 8); rw [e, Int.toNat_natCast]; exact l)
      | (obtain ⟨n, e, l⟩ := idx_nat W H h (md x W / 8) (md y H / 8 + 1); rw [e, Int.toNat_natCast]; exact l)
      | (obtain ⟨n, e, l⟩ := idx_nat W H h (md x W / 8 + 1) (md y H / 8 + 1); rw [e, Int.toNat_natCast]; exact l)
theorem total_law (W H : Nat) (h : Sides W H) (gs : List GP) : sumL (depAll W H gs) = 64 * sumQ gs := by
  unfold depAll
  have key : ∀ (gs : List GP) (fs : List Int), fs.length = W * H → sumL (gs.foldl (fun fs p => depF p.q (cornersL W H p.x p.y) fs) fs) = sumL fs + 64 * sumQ gs := by
    intro gs
    induction gs with
    | nil => intro fs _; simp [sumQ]
    | cons p gs ih =>
      intro fs hl
      rw [List.foldl_cons, ih _ (by rw [depF_length]; exact hl), sum_depF _ _ _ (fun c hc => by rw [hl]; exact corners_in W H h p.x p.y c hc), corners_sum]
      unfold sumQ
      rw [List.map_cons, List.sum_cons]
      omega
  rw [key gs _ (List.length_replicate ..)]
  have e : sumL (List.replicate (W * H) (0 : Int)) = 0 := by
    unfold sumL
    generalize W * H = n
    induction n with
    | zero => rfl
    | succ n ih => rw [List.replicate_succ, List.sum_cons, ih]; rfl
  omega
theorem charge_word (a : Int) (h : a.natAbs ≤ 100) : wd single 7 (64 * a) = wd single 1 a := by
  have e := wd_up (f := single) fit_single binade_le_single (k := 1) (a := a) 6 (by decide) (by show a.natAbs < 16777216; omega)
  rw [show (1 + 6 : Nat) = 7 from rfl, show ((2 ^ 6 : Nat) : Int) = 64 from rfl] at e
  rw [← e, Int.mul_comm]
end Go.Proofs.Ytnmdgbnophclnaa
