/- What a gathered field answers, in plain numbers: the products with what one particle leaves, the middle of a field that is the same everywhere, a field twice as large. -/
import Derived.Test.YtmnpijhnfdiomaaMd
import Derived.Test.YtmnpijhnfdiomaaKg
namespace Go.Proofs.Ytmnpijhnfdiomaa
open Go.RowKit Go.Sort Ieee
set_option linter.unusedSimpArgs false

theorem dotF_addAt : ∀ (F fs : List Int) (c : Nat) (d : Int), c < fs.length → F.length = fs.length → dotF F (addAt fs c d) = dotF F fs + F.getD c 0 * d
  | [], [], c, d, h, _ => absurd h (by simp)
  | [], _ :: _, _, _, _, e => by simp at e
  | _ :: _, [], _, _, _, e => by simp at e
  | a :: F, b :: fs, 0, d, _, _ => by
    simp only [dotF, addAt, List.getD_cons_zero, List.set_cons_zero, List.zipWith_cons_cons, List.sum_cons]
    rw [Int.mul_add]; omega
  | a :: F, b :: fs, c + 1, d, h, e => by
    have ih := dotF_addAt F fs c d (by simpa using h) (by simpa using e)
    simp only [dotF, addAt] at ih
    simp only [dotF, addAt, List.getD_cons_succ, List.set_cons_succ, List.zipWith_cons_cons, List.sum_cons]
    rw [ih]; omega

theorem dotF_dep (F : List Int) (q : Int) : ∀ (cs : List (Nat × Int)) (fs : List Int), (∀ c ∈ cs, c.1 < fs.length) → F.length = fs.length → dotF F (depF q cs fs) = dotF F fs + q * gatF cs F
  | [], fs, _, _ => by
    show dotF F fs = dotF F fs + q * 0
    rw [Int.mul_zero, Int.add_zero]
  | c :: cs, fs, h, e => by
    have ih := dotF_dep F q cs (addAt fs c.1 (q * c.2)) (fun x hx => by rw [addAt_length]; exact h x (List.mem_cons_of_mem _ hx)) (by rw [addAt_length]; exact e)
    have hd := dotF_addAt F fs c.1 (q * c.2) (h c List.mem_cons_self) e
    show dotF F (depF q cs (addAt fs c.1 (q * c.2))) = _
    rw [ih, hd]
    show _ = dotF F fs + q * (c.2 * F.getD c.1 0 + gatF cs F)
    rw [Int.mul_add, Int.mul_left_comm, Int.mul_comm (F.getD c.1 0), Int.mul_left_comm q]
    omega
theorem dotF_zero (F : List Int) : ∀ n, dotF F (List.replicate n 0) = 0 := by
  induction F with
  | nil => intro n; rfl
  | cons a F ih =>
    intro n
    cases n with
    | zero => rfl
    | succ n =>
      have := ih n
      simp only [dotF] at this
      simp only [dotF, List.replicate_succ, List.zipWith_cons_cons, List.sum_cons, Int.mul_zero, this, Int.zero_add]
theorem dot_law (W H : Nat) (h : Sides W H) (p : GP) (F : List Int) (hF : F.length = W * H) : dotF F (depAll W H [p]) = p.q * gatF (cornersL W H p.x p.y) F := by
  have e := dotF_dep F p.q (cornersL W H p.x p.y) (List.replicate (W * H) 0) (fun c hc => by rw [List.length_replicate]; exact corners_in W H h p.x p.y c hc) (by rw [List.length_replicate]; exact hF)
  rw [dotF_zero, Int.zero_add] at e
  exact e

theorem gat_even : ∀ (cs : List (Nat × Int)) (n : Nat) (v : Int), (∀ c ∈ cs, c.1 < n) → gatF cs (List.replicate n v) = v * (cs.map Prod.snd).sum
  | [], n, v, _ => by show (0 : Int) = v * 0; rw [Int.mul_zero]
  | c :: cs, n, v, h => by
    have ih := gat_even cs n v (fun x hx => h x (List.mem_cons_of_mem _ hx))
    show c.2 * (List.replicate n v).getD c.1 0 + gatF cs (List.replicate n v) = v * (c.2 + (cs.map Prod.snd).sum)
    rw [ih, getD_at _ _ (by rw [List.length_replicate]; exact h c List.mem_cons_self), List.getElem_replicate, Int.mul_add, Int.mul_comm c.2]
theorem gat_dbl : ∀ (cs : List (Nat × Int)) (F : List Int), (∀ c ∈ cs, c.1 < F.length) → gatF cs (dbl F) = 2 * gatF cs F
  | [], F, _ => rfl
  | c :: cs, F, h => by
    have ih := gat_dbl cs F (fun x hx => h x (List.mem_cons_of_mem _ hx))
    have hc := h c List.mem_cons_self
    show c.2 * (dbl F).getD c.1 0 + gatF cs (dbl F) = 2 * (c.2 * F.getD c.1 0 + gatF cs F)
    rw [ih, getD_at _ _ (by rw [dbl_length]; exact hc), getD_at _ _ hc, dbl_at F c.1 hc, Int.mul_add, Int.mul_left_comm]
theorem even_law (W H : Nat) (h : Sides W H) (x y v : Int) : gatF (cornersL W H x y) (List.replicate (W * H) v) = 64 * v := by
  rw [gat_even _ _ v (corners_in W H h x y), corners_sum, Int.mul_comm]
theorem dbl_law (W H : Nat) (h : Sides W H) (x y : Int) (F : List Int) (hF : F.length = W * H) : gatF (cornersL W H x y) (dbl F) = 2 * gatF (cornersL W H x y) F :=
  gat_dbl _ F (fun c hc => by rw [hF]; exact corners_in W H h x y c hc)
theorem half_w : (1056964608 : Nat) = wd single 1 1 := by decide +kernel
theorem minus2_w : (3221225472 : Nat) = wd single 1 (-4) := by decide +kernel
theorem even_half (W H : Nat) (h : Sides W H) (x y : Int) : wd single 7 (gatF (cornersL W H x y) (List.replicate (W * H) 1)) = 1056964608 := by
  rw [even_law W H h, charge_word 1 (by decide), half_w]
theorem even_minus2 (W H : Nat) (h : Sides W H) (x y : Int) : wd single 7 (gatF (cornersL W H x y) (List.replicate (W * H) (-4))) = 3221225472 := by
  rw [even_law W H h, charge_word (-4) (by decide), minus2_w]
theorem Small.even (n : Nat) (v : Int) (M : Nat) (h : v.natAbs ≤ M) : Small (List.replicate n v) M := fun u hu => by
  rw [List.eq_of_mem_replicate hu]; exact h
theorem even_fld {w : World} {g n : Nat} {a : Nat} {v : Int} (e : a = wd single 1 v) (h : Has w g 33 (List.replicate n (Value.float .f32 a)).toArray) : FldAt w g 1 (List.replicate n v) :=
  ⟨h.in_heap, fun i hi => by
    rw [h.cells i, List.getElem?_toArray, List.getElem?_replicate, if_pos (by simpa using hi), List.getElem_replicate, e]⟩

/-- The charge times what was gathered, against the product of the fields. -/
theorem charge_dot (q G : Int) (hq : q.natAbs ≤ 4) (hG : G.natAbs ≤ 4096) : ∃ r, floatBits .mul .f32 (wd single 1 q) (wd single 8 G) = some r ∧ FloatKind.f32.format.order r (wd single 9 (q * G)) = some .eq := by
  have hn : (q * G).natAbs < 16777216 := by
    have := natAbs_mul_le hq hG
    omega
  obtain ⟨r, e, hr, _⟩ := mul_is (f := single) fit_single binade_le_single (k := 1) (l := 8) (a := q) (b := G) (by decide) (by decide) (by decide) (by show q.natAbs < 16777216; omega) (by show G.natAbs < 16777216; omega) (by show (q * G).natAbs < 16777216; exact hn)
  refine ⟨r, ?_, ?_⟩
  · exact e
  · have o := hr.order (wd_is single fit_single 9 (q * G) (by decide) hn)
    rw [Int.compare_eq_eq.2 rfl] at o
    exact o
end Go.Proofs.Ytmnpijhnfdiomaa
