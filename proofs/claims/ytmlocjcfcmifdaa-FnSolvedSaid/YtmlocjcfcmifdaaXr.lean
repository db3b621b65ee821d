/- Plain: sums over a grid do not change around its edges; what a potential does to itself is no less than an eighth of its own square. No program. -/
import Derived.Test.YtmlocjcfcmifdaaXq
namespace Go.Proofs.Ytmlocjcfcmifdaa
open Ieee
set_option linter.unusedVariables false

theorem rsum_tail (g : Nat → Rat) : ∀ w, rsum g (w + 1) = g 0 + rsum (fun x => g (x + 1)) w
  | 0 => by unfold rsum rsum; grind
  | w + 1 => by
    have ih := rsum_tail g w
    have e1 : rsum g (w + 1 + 1) = rsum g (w + 1) + g (w + 1) := rfl
    have e2 : rsum (fun x => g (x + 1)) (w + 1) = rsum (fun x => g (x + 1)) w + g (w + 1) := rfl
    rw [e1, e2, ih]
    grind
theorem rsum_nx (g : Nat → Rat) : ∀ W, 0 < W → rsum (fun x => g (nx W x)) W = rsum g W
  | 0, h => by omega
  | w + 1, _ => by
    have e1 : rsum (fun x => g (nx (w + 1) x)) (w + 1) = rsum (fun x => g (nx (w + 1) x)) w + g (nx (w + 1) w) := rfl
    have e2 : nx (w + 1) w = 0 := nx_last (n := w + 1) (by omega)
    rw [e1, e2, rsum_congr (g := fun x => g (x + 1)) w (fun j hj => by rw [nx_in (by omega)]), rsum_tail]
    grind
theorem rsum_more (f : Nat → Rat) (a : Nat) : ∀ b, rsum f (a + b) = rsum f a + rsum (fun x => f (x + a)) b
  | 0 => by
    have e : rsum (fun x => f (x + a)) 0 = 0 := rfl
    rw [e, Nat.add_zero]; grind
  | b + 1 => by
    have ih := rsum_more f a b
    have e1 : rsum f (a + (b + 1)) = rsum f (a + b) + f (a + b) := rfl
    have e2 : rsum (fun x => f (x + a)) (b + 1) = rsum (fun x => f (x + a)) b + f (b + a) := rfl
    rw [e1, e2, ih, Nat.add_comm b a]
    grind
theorem rsum_rows (f : Nat → Rat) (W : Nat) : ∀ H, rsum f (W * H) = rsum (fun y => rsum (fun x => f (x + W * y)) W) H
  | 0 => rfl
  | H + 1 => by
    have ih := rsum_rows f W H
    have e : rsum (fun y => rsum (fun x => f (x + W * y)) W) (H + 1) = rsum (fun y => rsum (fun x => f (x + W * y)) W) H + rsum (fun x => f (x + W * H)) W := rfl
    rw [Nat.mul_succ, rsum_more, ih, e]

theorem nb_in {W H x y : Nat} (hx : x < W) : nL W H (x + W * y) = pv W x + W * y ∧ nR W H (x + W * y) = nx W x + W * y ∧ nU W H (x + W * y) = x + W * pv H y ∧ nD W H (x + W * y) = x + W * nx H y := by
  have em : (x + W * y) % W = x := by rw [Nat.add_mul_mod_self_left, Nat.mod_eq_of_lt hx]
  have ed : (x + W * y) / W = y := by rw [Nat.add_mul_div_left _ _ (by omega), Nat.div_eq_of_lt hx, Nat.zero_add]
  unfold nL nR nU nD
  rw [em, ed]
  exact ⟨rfl, rfl, rfl, rfl⟩
theorem pv_nx {n k : Nat} (hk : k < n) : pv n (nx n k) = k := by
  by_cases h : k + 1 < n
  · rw [nx_in h, pv_pos (by omega) h]; omega
  · obtain rfl : k = n - 1 := by omega
    rw [nx_last (by omega), pv_zero (by omega)]
theorem split_k {W H k : Nat} (hk : k < W * H) : ∃ x y, x < W ∧ y < H ∧ k = x + W * y := by
  have hW : 0 < W := Nat.pos_of_ne_zero (fun e => by rw [e, Nat.zero_mul] at hk; omega)
  exact ⟨k % W, k / W, Nat.mod_lt _ hW, Nat.div_lt_of_lt_mul hk, (Nat.mod_add_div k W).symm⟩
theorem nLR {W H k : Nat} (hk : k < W * H) : nL W H (nR W H k) = k := by
  obtain ⟨x, y, hx, hy, rfl⟩ := split_k hk
  rw [(nb_in hx).2.1, (nb_in (nx_lt (by omega))).1, pv_nx hx]
theorem nUD {W H k : Nat} (hk : k < W * H) : nU W H (nD W H k) = k := by
  obtain ⟨x, y, hx, hy, rfl⟩ := split_k hk
  rw [(nb_in hx).2.2.2, (nb_in hx).2.2.1, pv_nx hy]
theorem sum_R {W H : Nat} (hW : 0 < W) (f : Nat → Rat) : rsum (fun k => f (nR W H k)) (W * H) = rsum f (W * H) := by
  rw [rsum_rows, rsum_rows]
  refine rsum_congr H (fun y hy => ?_)
  rw [rsum_congr (g := fun x => f (nx W x + W * y)) W (fun x hx => by rw [(nb_in hx).2.1])]
  exact rsum_nx (fun x => f (x + W * y)) W hW
theorem sum_D {W H : Nat} (hH : 0 < H) (f : Nat → Rat) : rsum (fun k => f (nD W H k)) (W * H) = rsum f (W * H) := by
  rw [rsum_rows, rsum_rows, rsum_congr (g := fun y => rsum (fun x => f (x + W * nx H y)) W) H (fun y hy => rsum_congr W (fun x hx => by rw [(nb_in hx).2.2.2]))]
  exact rsum_nx (fun y => rsum (fun x => f (x + W * y)) W) H hH
theorem rsum_add (f g : Nat → Rat) : ∀ n, rsum (fun k => f k + g k) n = rsum f n + rsum g n
  | 0 => by unfold rsum; grind
  | n + 1 => by
    have := rsum_add f g n
    unfold rsum
    rw [this]; grind
theorem rsum_nonneg {f : Nat → Rat} : ∀ n, (∀ j, j < n → 0 ≤ f j) → 0 ≤ rsum f n
  | 0, _ => Rat.le_refl
  | n + 1, h => by
    have a := rsum_nonneg n (fun j hj => h j (by omega))
    have b := h n (by omega)
    unfold rsum
    grind

theorem bself_sq (a b : Rat) : 0 ≤ (a - b) * (a - b) := by
  rcases Rat.le_total (a := 0) (b := a - b) with h | h
  · exact Rat.mul_nonneg h h
  · have := Rat.mul_nonneg (show 0 ≤ -(a - b) by grind) (show 0 ≤ -(a - b) by grind)
    grind
def lapR (W H : Nat) (x : Nat → Rat) (k : Nat) : Rat := 4 * x k - x (nL W H k) - x (nR W H k) - x (nU W H k) - x (nD W H k)
/-- A number's product with what it leaves, of all corners, is no less than an eighth of the squares of what is left. -/
theorem psd {W H : Nat} (hW : 0 < W) (hH : 0 < H) (x : Nat → Rat) : rsum (fun k => lapR W H x k * lapR W H x k) (W * H) ≤ 8 * rsum (fun k => x k * lapR W H x k) (W * H) := by
  -- by shifts
  have a1 : rsum (fun k => x k * (x k - x (nL W H k))) (W * H) = rsum (fun k => x (nR W H k) * (x (nR W H k) - x k)) (W * H) := by
    rw [← sum_R hW]
    exact rsum_congr _ (fun k hk => by rw [nLR hk])
  have a2 : rsum (fun k => x k * (x k - x (nU W H k))) (W * H) = rsum (fun k => x (nD W H k) * (x (nD W H k) - x k)) (W * H) := by
    rw [← sum_D hH]
    exact rsum_congr _ (fun k hk => by rw [nUD hk])
  have b1 : rsum (fun k => (x k - x (nL W H k)) * (x k - x (nL W H k))) (W * H) = rsum (fun k => (x k - x (nR W H k)) * (x k - x (nR W H k))) (W * H) := by
    rw [← sum_R hW]
    exact rsum_congr _ (fun k hk => by rw [nLR hk]; grind)
  have b2 : rsum (fun k => (x k - x (nU W H k)) * (x k - x (nU W H k))) (W * H) = rsum (fun k => (x k - x (nD W H k)) * (x k - x (nD W H k))) (W * H) := by
    rw [← sum_D hH]
    exact rsum_congr _ (fun k hk => by rw [nUD hk]; grind)
  have c : rsum (fun k => x k * lapR W H x k) (W * H) = rsum (fun k => (x k - x (nR W H k)) * (x k - x (nR W H k))) (W * H) + rsum (fun k => (x k - x (nD W H k)) * (x k - x (nD W H k))) (W * H) := by
    rw [rsum_congr (g := fun k => (x k * (x k - x (nL W H k)) + x k * (x k - x (nU W H k))) + (x k * (x k - x (nR W H k)) + x k * (x k - x (nD W H k)))) _ (fun k _ => by unfold lapR; grind), rsum_add, rsum_add, rsum_add, a1, a2]
    have e1 : rsum (fun k => (x k - x (nR W H k)) * (x k - x (nR W H k))) (W * H) = rsum (fun k => x (nR W H k) * (x (nR W H k) - x k)) (W * H) + rsum (fun k => x k * (x k - x (nR W H k))) (W * H) := by
      rw [← rsum_add]; exact rsum_congr _ (fun k _ => by grind)
    have e2 : rsum (fun k => (x k - x (nD W H k)) * (x k - x (nD W H k))) (W * H) = rsum (fun k => x (nD W H k) * (x (nD W H k) - x k)) (W * H) + rsum (fun k => x k * (x k - x (nD W H k))) (W * H) := by
      rw [← rsum_add]; exact rsum_congr _ (fun k _ => by grind)
    rw [e1, e2]; grind
  have d : rsum (fun k => lapR W H x k * lapR W H x k) (W * H) ≤ rsum (fun k => 4 * (((x k - x (nL W H k)) * (x k - x (nL W H k)) + (x k - x (nU W H k)) * (x k - x (nU W H k))) + ((x k - x (nR W H k)) * (x k - x (nR W H k)) + (x k - x (nD W H k)) * (x k - x (nD W H k))))) (W * H) := by
    refine rsum_le _ (fun k _ => ?_)
    unfold lapR
    generalize x (nL W H k) = p
    generalize x (nR W H k) = q
    generalize x (nU W H k) = u
    generalize x (nD W H k) = v
    generalize x k = z
    have s1 := bself_sq (z - p) (z - q)
    have s2 := bself_sq (z - p) (z - u)
    have s3 := bself_sq (z - p) (z - v)
    have s4 := bself_sq (z - q) (z - u)
    have s5 := bself_sq (z - q) (z - v)
    have s6 := bself_sq (z - u) (z - v)
    grind
  rw [rsum_scale, rsum_add, rsum_add, rsum_add, b1, b2] at d
  rw [c]
  grind
end Go.Proofs.Ytmlocjcfcmifdaa
