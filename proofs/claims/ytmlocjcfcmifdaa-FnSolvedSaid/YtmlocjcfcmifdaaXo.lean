/- Plain: sweeps over a grid: averages of neighbours, nearly, make what differs smaller: by weights that are reckoned in whole numbers. No program. -/
import Derived.Test.YtmlocjcfcmifdaaXj
namespace Go.Proofs.Ytmlocjcfcmifdaa
open Ieee
set_option linter.unusedVariables false

def nL (W H k : Nat) : Nat := pv W (k % W) + W * (k / W)
def nR (W H k : Nat) : Nat := nx W (k % W) + W * (k / W)
def nU (W H k : Nat) : Nat := k % W + W * pv H (k / W)
def nD (W H k : Nat) : Nat := k % W + W * nx H (k / W)
theorem nb_lt {W H k : Nat} (hk : k < W * H) : nL W H k < W * H ∧ nR W H k < W * H ∧ nU W H k < W * H ∧ nD W H k < W * H := by
  have hW : 0 < W := Nat.pos_of_ne_zero (fun e => by rw [e, Nat.zero_mul] at hk; omega)
  have hH : 0 < H := Nat.pos_of_ne_zero (fun e => by rw [e, Nat.mul_zero] at hk; omega)
  have hx := Nat.mod_lt k hW
  have hy : k / W < H := Nat.div_lt_of_lt_mul hk
  exact ⟨in_lt W H _ _ (pv_lt hW) hy, in_lt W H _ _ (nx_lt hW) hy, in_lt W H _ _ hx (pv_lt hH), in_lt W H _ _ hx (nx_lt hH)⟩

/-- One corner becomes what its neighbours are, nearly. -/
def Step (W H : Nat) (ν : Rat) (k : Nat) (t e : Nat → Rat) : Prop := Cl (e k) ((t (nL W H k) + t (nR W H k) + t (nU W H k) + t (nD W H k)) / 4) ν ∧ ∀ i, i ≠ k → e i = t i
/-- The corners of a colour below the k-th, one after another. -/
def SwR (W H c : Nat) (ν : Rat) : Nat → (Nat → Rat) → (Nat → Rat) → Prop
  | 0, e, f => ∀ i, f i = e i
  | k + 1, e, f => ∃ t, SwR W H c ν k e t ∧ if (k % W + k / W) % 2 = c then Step W H ν k t f else ∀ i, f i = t i
def SwF (W H : Nat) (ν : Rat) (e f : Nat → Rat) : Prop := ∃ t, SwR W H 0 ν (W * H) e t ∧ SwR W H 1 ν (W * H) t f
def SwI (W H : Nat) (ν : Rat) : Nat → (Nat → Rat) → (Nat → Rat) → Prop
  | 0, e, f => ∀ i, f i = e i
  | m + 1, e, f => ∃ t, SwI W H ν m e t ∧ SwF W H ν t f
theorem SwI.split {W H : Nat} {ν : Rat} : ∀ (b a : Nat) {e f : Nat → Rat}, SwI W H ν (a + b) e f → ∃ t, SwI W H ν a e t ∧ SwI W H ν b t f
  | 0, a, e, f, h => ⟨f, h, fun _ => rfl⟩
  | b + 1, a, e, f, ⟨u, h1, h2⟩ => by
    obtain ⟨t, g1, g2⟩ := SwI.split b a h1
    exact ⟨t, g1, u, g2, h2⟩

/-! ### The weights, in whole numbers -/
def avg4 : List Nat → List Nat → List Nat → List Nat → List Nat
  | a :: aa, b :: bs, c :: cs, d :: ds => (a + b + c + d) / 4 :: avg4 aa bs cs ds
  | _, _, _, _ => []
def cS (W H c : Nat) : Nat → List (List Nat) → List (List Nat)
  | 0, s => s
  | k + 1, s =>
    let t := cS W H c k s
    if (k % W + k / W) % 2 = c then t.set k (avg4 (t.getD (nL W H k) []) (t.getD (nR W H k) []) (t.getD (nU W H k) []) (t.getD (nD W H k) [])) else t
def cF (W H : Nat) (s : List (List Nat)) : List (List Nat) := cS W H 1 (W * H) (cS W H 0 (W * H) s)
def cI (W H : Nat) : Nat → List (List Nat) → List (List Nat)
  | 0, s => s
  | m + 1, s => cF W H (cI W H m s)
def unitR (n S : Nat) : List (List Nat) := (List.range n).map fun i => (List.range n).map fun j => if j = i then S else 0
def min2 : List Nat → List Nat → List Nat
  | a :: aa, b :: bs => min a b :: min2 aa bs
  | _, _ => []
def minAll : List (List Nat) → List Nat
  | [] => []
  | [a] => a
  | a :: b :: aa => min2 a (minAll (b :: aa))
def dsum (l : List Nat) : Nat → Nat
  | 0 => 0
  | k + 1 => dsum l k + l.getD k 0
def nS (W H c T : Nat) : Nat → List Nat → List Nat
  | 0, s => s
  | k + 1, s =>
    let t := nS W H c T k s
    if (k % W + k / W) % 2 = c then t.set k ((t.getD (nL W H k) 0 + t.getD (nR W H k) 0 + t.getD (nU W H k) 0 + t.getD (nD W H k) 0 + 3) / 4 + T) else t
def nF (W H T : Nat) (s : List Nat) : List Nat := nS W H 1 T (W * H) (nS W H 0 T (W * H) s)
def nI (W H T : Nat) : Nat → List Nat → List Nat
  | 0, s => s
  | m + 1, s => nF W H T (nI W H T m s)

theorem getD_set {α : Type} (l : List α) (k i : Nat) (v d : α) (hk : k < l.length) : (l.set k v).getD i d = if i = k then v else l.getD i d := by
  rw [List.getD_eq_getElem?_getD, List.getD_eq_getElem?_getD, List.getElem?_set]
  by_cases e : i = k
  · subst e; rw [if_pos rfl, if_pos hk, if_pos rfl]; rfl
  · rw [if_neg (fun h => e h.symm), if_neg e]
theorem avg4_at : ∀ (a b c d : List Nat) (j : Nat), 4 * (avg4 a b c d).getD j 0 ≤ a.getD j 0 + b.getD j 0 + c.getD j 0 + d.getD j 0
  | a :: aa, b :: bs, c :: cs, d :: ds, 0 => by
    show 4 * ((a + b + c + d) / 4) ≤ a + b + c + d
    omega
  | a :: aa, b :: bs, c :: cs, d :: ds, j + 1 => avg4_at aa bs cs ds j
  | [], _, _, _, j => by simp [avg4]
  | _ :: _, [], _, _, j => by simp [avg4]
  | _ :: _, _ :: _, [], _, j => by simp [avg4]
  | _ :: _, _ :: _, _ :: _, [], j => by simp [avg4]
theorem min2_at : ∀ (a b : List Nat) (j : Nat), (min2 a b).getD j 0 ≤ a.getD j 0 ∧ (min2 a b).getD j 0 ≤ b.getD j 0
  | a :: aa, b :: bs, 0 => ⟨Nat.min_le_left _ _, Nat.min_le_right _ _⟩
  | a :: aa, b :: bs, j + 1 => min2_at aa bs j
  | [], _, j => by simp [min2]
  | _ :: _, [], j => by simp [min2]
theorem minAll_at : ∀ (s : List (List Nat)) (i j : Nat), i < s.length → (minAll s).getD j 0 ≤ (s.getD i []).getD j 0
  | [], i, j, h => by simp at h
  | [a], i, j, h => by
    have e : i = 0 := by simp at h; omega
    subst e
    exact Nat.le_refl _
  | a :: b :: aa, 0, j, _ => (min2_at a (minAll (b :: aa)) j).1
  | a :: b :: aa, i + 1, j, h => Nat.le_trans (min2_at a (minAll (b :: aa)) j).2 (minAll_at (b :: aa) i j (by simp at h ⊢; omega))
theorem cS_len (W H c : Nat) : ∀ k (s : List (List Nat)), (cS W H c k s).length = s.length
  | 0, s => rfl
  | k + 1, s => by
    have ih := cS_len W H c k s
    unfold cS
    dsimp only
    by_cases e : (k % W + k / W) % 2 = c
    · rw [if_pos e, List.length_set]; exact ih
    · rw [if_neg e]; exact ih
theorem nS_len (W H c T : Nat) : ∀ k (s : List Nat), (nS W H c T k s).length = s.length
  | 0, s => rfl
  | k + 1, s => by
    have ih := nS_len W H c T k s
    unfold nS
    dsimp only
    by_cases e : (k % W + k / W) % 2 = c
    · rw [if_pos e, List.length_set]; exact ih
    · rw [if_neg e]; exact ih

/-! ### Sums -/
theorem rsum_le {f g : Nat → Rat} : ∀ n, (∀ j, j < n → f j ≤ g j) → rsum f n ≤ rsum g n
  | 0, _ => Rat.le_refl
  | n + 1, h => by
    have a := rsum_le n (fun j hj => h j (by omega))
    have b := h n (by omega)
    unfold rsum
    grind
theorem rsum_congr {f g : Nat → Rat} : ∀ n, (∀ j, j < n → f j = g j) → rsum f n = rsum g n
  | 0, _ => rfl
  | n + 1, h => by
    have a := rsum_congr n (fun j hj => h j (by omega))
    have b := h n (by omega)
    unfold rsum
    rw [a, b]
theorem rsum_avg (a b c d : Nat → Rat) : ∀ n, rsum (fun j => (a j + b j + c j + d j) / 4) n = (rsum a n + rsum b n + rsum c n + rsum d n) / 4
  | 0 => by unfold rsum; grind
  | n + 1 => by
    have := rsum_avg a b c d n
    unfold rsum
    rw [this]
    grind
theorem rsum_avgE (a b c d E : Nat → Rat) : ∀ n, rsum (fun j => (a j + b j + c j + d j) / 4 * E j) n = (rsum (fun j => a j * E j) n + rsum (fun j => b j * E j) n + rsum (fun j => c j * E j) n + rsum (fun j => d j * E j) n) / 4
  | 0 => by unfold rsum; grind
  | n + 1 => by
    have := rsum_avgE a b c d E n
    unfold rsum
    rw [this]
    grind
theorem rsum_one (S : Rat) (E : Nat → Rat) (i : Nat) : ∀ n, rsum (fun j => (if j = i then S else 0) * E j) n = if i < n then S * E i else 0
  | 0 => by unfold rsum; rw [if_neg (by omega)]
  | n + 1 => by
    have ih := rsum_one S E i n
    unfold rsum
    rw [ih]
    by_cases e : n = i
    · subst e
      rw [if_neg (by omega), if_pos rfl, if_pos (by omega)]
      grind
    · rw [if_neg e]
      by_cases h : i < n
      · rw [if_pos h, if_pos (by omega)]; grind
      · rw [if_neg h, if_neg (by omega)]; grind
theorem rsum_part (c m E : Nat → Rat) (h : Rat) : ∀ n, rsum (fun j => m j * E j + (c j - m j) * h) n = rsum (fun j => m j * E j) n + (rsum c n - rsum m n) * h
  | 0 => by unfold rsum; grind
  | n + 1 => by
    have := rsum_part c m E h n
    unfold rsum
    rw [this]
    grind
theorem dsum_cast (l : List Nat) : ∀ n, ((dsum l n : Nat) : Rat) = rsum (fun j => ((l.getD j 0 : Nat) : Rat)) n
  | 0 => rfl
  | n + 1 => by
    have := dsum_cast l n
    unfold dsum rsum
    rw [Rat.natCast_add, this]

/-- A number aa a mean of the numbers at the start: weights that are no less than those of a row, and an error. -/
def Rep (n S : Nat) (μ : Rat) (E : Nat → Rat) (row : List Nat) (b : Nat) (u : Rat) : Prop :=
  ∃ c : Nat → Rat, (∀ j, ((row.getD j 0 : Nat) : Rat) ≤ c j) ∧ rsum c n = (S : Rat) ∧ Cl ((S : Rat) * u) (rsum (fun j => c j * E j) n) ((S : Rat) * ((b : Rat) * μ))
def RepS (n S : Nat) (μ : Rat) (E : Nat → Rat) (s : List (List Nat)) (bs : List Nat) (e : Nat → Rat) : Prop := ∀ i, i < n → Rep n S μ E (s.getD i []) (bs.getD i 0) (e i)

theorem Rep.avg {n S T : Nat} {μ : Rat} {E : Nat → Rat} {r1 r2 r3 r4 : List Nat} {b1 b2 b3 b4 : Nat} {u1 u2 u3 u4 u : Rat} (hμ : 0 ≤ μ) (h1 : Rep n S μ E r1 b1 u1) (h2 : Rep n S μ E r2 b2 u2) (h3 : Rep n S μ E r3 b3 u3) (h4 : Rep n S μ E r4 b4 u4) (hu : Cl u ((u1 + u2 + u3 + u4) / 4) ((T : Rat) * μ)) :
    Rep n S μ E (avg4 r1 r2 r3 r4) ((b1 + b2 + b3 + b4 + 3) / 4 + T) u := by
  obtain ⟨c1, l1, s1, k1⟩ := h1
  obtain ⟨c2, l2, s2, k2⟩ := h2
  obtain ⟨c3, l3, s3, k3⟩ := h3
  obtain ⟨c4, l4, s4, k4⟩ := h4
  refine ⟨fun j => (c1 j + c2 j + c3 j + c4 j) / 4, fun j => ?_, ?_, ?_⟩
  · have a := avg4_at r1 r2 r3 r4 j
    have a' := Rat.natCast_le_natCast.2 a
    rw [Rat.natCast_mul, Rat.natCast_add, Rat.natCast_add, Rat.natCast_add] at a'
    have e4 : ((4 : Nat) : Rat) = 4 := rfl
    rw [e4] at a'
    have := l1 j; have := l2 j; have := l3 j; have := l4 j
    grind
  · rw [rsum_avg, s1, s2, s3, s4]; grind
  · rw [rsum_avgE]
    have S0 : (0 : Rat) ≤ (S : Rat) := Rat.natCast_nonneg
    have hb : b1 + b2 + b3 + b4 ≤ 4 * ((b1 + b2 + b3 + b4 + 3) / 4) := by omega
    have hb' := Rat.natCast_le_natCast.2 hb
    rw [Rat.natCast_mul, Rat.natCast_add, Rat.natCast_add, Rat.natCast_add] at hb'
    have e4 : ((4 : Nat) : Rat) = 4 := rfl
    rw [e4] at hb'
    rw [Rat.natCast_add]
    have m1 := Rat.mul_le_mul_of_nonneg_right hb' (Rat.mul_nonneg S0 hμ)
    generalize (((b1 + b2 + b3 + b4 + 3) / 4 : Nat) : Rat) = q at *
    have m2 : Cl ((S : Rat) * u) ((S : Rat) * ((u1 + u2 + u3 + u4) / 4)) ((S : Rat) * ((T : Rat) * μ)) := by
      unfold Cl at *
      have p1 := Rat.mul_le_mul_of_nonneg_left hu.1 S0
      have p2 := Rat.mul_le_mul_of_nonneg_left hu.2 S0
      constructor <;> grind
    unfold Cl at *
    constructor <;> grind

section
variable {W H n S T : Nat} {μ : Rat} {E : Nat → Rat} (hn : n = W * H) (hμ : 0 ≤ μ)
include hn hμ

theorem RepS.sweep (c : Nat) : ∀ k, k ≤ n → ∀ {s bs e f}, s.length = n → bs.length = n → RepS n S μ E s bs e → SwR W H c ((T : Rat) * μ) k e f → RepS n S μ E (cS W H c k s) (nS W H c T k bs) f
  | 0, _, s, bs, e, f, _, _, h, g => fun i hi => by rw [g i]; exact h i hi
  | k + 1, hk, s, bs, e, f, ls, lb, h, ⟨t, g1, g2⟩ => by
    have ih := RepS.sweep c k (by omega) ls lb h g1
    have l1 : (cS W H c k s).length = n := by rw [cS_len, ls]
    have l2 : (nS W H c T k bs).length = n := by rw [nS_len, lb]
    obtain ⟨b1, b2, b3, b4⟩ := nb_lt (W := W) (H := H) (k := k) (by omega)
    rw [← hn] at b1 b2 b3 b4
    intro i hi
    unfold cS nS
    dsimp only
    by_cases ec : (k % W + k / W) % 2 = c
    · rw [if_pos ec] at g2
      rw [if_pos ec, if_pos ec, getD_set _ _ _ _ _ (by omega), getD_set _ _ _ _ _ (by omega)]
      by_cases e : i = k
      · subst e
        rw [if_pos rfl, if_pos rfl]
        exact Rep.avg hμ (ih _ b1) (ih _ b2) (ih _ b3) (ih _ b4) g2.1
      · rw [if_neg e, if_neg e, g2.2 i e]
        exact ih i hi
    · rw [if_neg ec] at g2
      rw [if_neg ec, if_neg ec, g2 i]
      exact ih i hi
theorem RepS.full {s bs e f} (ls : s.length = n) (lb : bs.length = n) (h : RepS n S μ E s bs e) (g : SwF W H ((T : Rat) * μ) e f) : RepS n S μ E (cF W H s) (nF W H T bs) f ∧ (cF W H s).length = n ∧ (nF W H T bs).length = n := by
  obtain ⟨t, g1, g2⟩ := g
  rw [← hn] at g1 g2
  have l1 : (cS W H 0 n s).length = n := by rw [cS_len, ls]
  have l2 : (nS W H 0 T n bs).length = n := by rw [nS_len, lb]
  have r1 := RepS.sweep hn hμ 0 n (Nat.le_refl _) ls lb h g1
  have r2 := RepS.sweep hn hμ 1 n (Nat.le_refl _) l1 l2 r1 g2
  unfold cF nF
  rw [← hn]
  exact ⟨r2, by rw [cS_len, l1], by rw [nS_len, l2]⟩
theorem RepS.many {s bs e} (ls : s.length = n) (lb : bs.length = n) (h : RepS n S μ E s bs e) : ∀ m {f}, SwI W H ((T : Rat) * μ) m e f → RepS n S μ E (cI W H m s) (nI W H T m bs) f ∧ (cI W H m s).length = n ∧ (nI W H T m bs).length = n
  | 0, f, g => ⟨fun i hi => by rw [g i]; exact h i hi, ls, lb⟩
  | m + 1, f, ⟨t, g1, g2⟩ => by
    obtain ⟨r, l1, l2⟩ := RepS.many ls lb h m g1
    exact RepS.full hn hμ l1 l2 r g2
end

theorem unitR_at (n S i j : Nat) (hi : i < n) : ((unitR n S).getD i []).getD j 0 ≤ if j = i then S else 0 := by
  unfold unitR
  have e : ((List.range n).map fun i => (List.range n).map fun j => if j = i then S else 0).getD i [] = (List.range n).map fun j => if j = i then S else 0 := by
    rw [List.getD_eq_getElem?_getD, List.getElem?_map, List.getElem?_range hi]; rfl
  rw [e, List.getD_eq_getElem?_getD, List.getElem?_map]
  by_cases hj : j < n
  · rw [List.getElem?_range hj]; exact Nat.le_refl _
  · rw [List.getElem?_eq_none (by simp; omega)]; exact Nat.zero_le _
theorem RepS.start (n S : Nat) (μ : Rat) (E : Nat → Rat) : RepS n S μ E (unitR n S) (List.replicate n 0) E := by
  intro i hi
  have e0 : (List.replicate n 0).getD i 0 = 0 := by simp [List.getD_eq_getElem?_getD, hi]
  rw [e0]
  refine ⟨fun j => if j = i then (S : Rat) else 0, fun j => ?_, ?_, ?_⟩
  · have h := Rat.natCast_le_natCast.2 (unitR_at n S i j hi)
    dsimp only
    by_cases e : j = i
    · rw [if_pos e] at h ⊢; exact h
    · rw [if_neg e] at h ⊢
      have z : ((0 : Nat) : Rat) = 0 := rfl
      rw [z] at h; exact h
  · have h := rsum_one (S : Rat) (fun _ => 1) i n
    rw [if_pos hi] at h
    have e : rsum (fun j => if j = i then (S : Rat) else 0) n = rsum (fun j => (if j = i then (S : Rat) else 0) * 1) n := rsum_congr n (fun j _ => by grind)
    rw [e, h]; grind
  · rw [rsum_one, if_pos hi]
    have z : ((0 : Nat) : Rat) = 0 := rfl
    rw [z]
    unfold Cl
    constructor <;> grind

/-- What differs becomes smaller. -/
theorem RepS.contract {n S : Nat} {μ : Rat} {E e : Nat → Rat} {s : List (List Nat)} {bs : List Nat} (h : RepS n S μ E s bs e) (ls : s.length = n) (hμ : 0 ≤ μ) (hS : 0 < S) {B : Nat} (hB : ∀ i, i < n → bs.getD i 0 ≤ B) {lo hi : Rat} (hE : ∀ j, j < n → lo ≤ E j ∧ E j ≤ hi) :
    ∃ lo' hi', (∀ i, i < n → lo' ≤ e i ∧ e i ≤ hi') ∧ (S : Rat) * (hi' - lo') ≤ ((S : Rat) - ((dsum (minAll s) n : Nat) : Rat)) * (hi - lo) + 2 * ((S : Rat) * ((B : Rat) * μ)) := by
  have S0 : (0 : Rat) < (S : Rat) := Rat.natCast_pos.2 hS
  rw [dsum_cast]
  have key : ∀ i, i < n → rsum (fun j => (((minAll s).getD j 0 : Nat) : Rat) * E j) n + ((S : Rat) - rsum (fun j => (((minAll s).getD j 0 : Nat) : Rat)) n) * lo - (S : Rat) * ((B : Rat) * μ) ≤ (S : Rat) * e i ∧ (S : Rat) * e i ≤ rsum (fun j => (((minAll s).getD j 0 : Nat) : Rat) * E j) n + ((S : Rat) - rsum (fun j => (((minAll s).getD j 0 : Nat) : Rat)) n) * hi + (S : Rat) * ((B : Rat) * μ) := by
    intro i hi'
    obtain ⟨c, l, sc, k⟩ := h i hi'
    have hb := Rat.natCast_le_natCast.2 (hB i hi')
    have hb1 := Rat.mul_le_mul_of_nonneg_right hb hμ
    have hb2 := Rat.mul_le_mul_of_nonneg_left hb1 (Rat.le_of_lt S0)
    have d : ∀ j, 0 ≤ c j - (((minAll s).getD j 0 : Nat) : Rat) := fun j => by
      have a := Rat.natCast_le_natCast.2 (minAll_at s i j (by omega))
      have := l j
      grind
    have up := rsum_le (f := fun j => c j * E j) (g := fun j => (((minAll s).getD j 0 : Nat) : Rat) * E j + (c j - (((minAll s).getD j 0 : Nat) : Rat)) * hi) n (fun j hj => by
      have m := Rat.mul_le_mul_of_nonneg_left (hE j hj).2 (d j)
      grind)
    have dn := rsum_le (g := fun j => c j * E j) (f := fun j => (((minAll s).getD j 0 : Nat) : Rat) * E j + (c j - (((minAll s).getD j 0 : Nat) : Rat)) * lo) n (fun j hj => by
      have m := Rat.mul_le_mul_of_nonneg_left (hE j hj).1 (d j)
      grind)
    rw [rsum_part, sc] at up dn
    unfold Cl at k
    constructor <;> grind
  generalize rsum (fun j => (((minAll s).getD j 0 : Nat) : Rat) * E j) n = A at *
  generalize rsum (fun j => (((minAll s).getD j 0 : Nat) : Rat)) n = D at *
  have inv : (S : Rat) * (S : Rat)⁻¹ = 1 := Rat.mul_inv_cancel _ (by grind)
  refine ⟨(A + ((S : Rat) - D) * lo - (S : Rat) * ((B : Rat) * μ)) * (S : Rat)⁻¹, (A + ((S : Rat) - D) * hi + (S : Rat) * ((B : Rat) * μ)) * (S : Rat)⁻¹, fun i hi' => ?_, ?_⟩
  · obtain ⟨a, b⟩ := key i hi'
    have ip : (0 : Rat) ≤ (S : Rat)⁻¹ := Rat.le_of_lt (Rat.inv_pos.2 S0)
    have a' := Rat.mul_le_mul_of_nonneg_right a ip
    have b' := Rat.mul_le_mul_of_nonneg_right b ip
    have e1 : (S : Rat) * e i * (S : Rat)⁻¹ = e i := by
      have : (S : Rat) * e i * (S : Rat)⁻¹ = ((S : Rat) * (S : Rat)⁻¹) * e i := by grind
      rw [this, inv]; grind
    rw [e1] at a' b'
    exact ⟨a', b'⟩
  · have e2 : (S : Rat) * ((A + ((S : Rat) - D) * hi + (S : Rat) * ((B : Rat) * μ)) * (S : Rat)⁻¹ - (A + ((S : Rat) - D) * lo - (S : Rat) * ((B : Rat) * μ)) * (S : Rat)⁻¹) = ((S : Rat) * (S : Rat)⁻¹) * (((S : Rat) - D) * (hi - lo) + 2 * ((S : Rat) * ((B : Rat) * μ))) := by grind
    rw [e2, inv]
    grind

/-- What is reckoned of a grid: so much is common to all after so many sweeps, and errors are no greater. -/
structure Cert (W H m S T D B : Nat) : Prop where
  S0 : 0 < S
  common : D ≤ dsum (minAll (cI W H m (unitR (W * H) S))) (W * H)
  err : ((nI W H T m (List.replicate (W * H) 0)).all fun b => decide (b ≤ B)) = true
theorem Cert.use {W H m S T D B : Nat} (C : Cert W H m S T D B) {μ : Rat} (hμ : 0 ≤ μ) {e f : Nat → Rat} (g : SwI W H ((T : Rat) * μ) m e f) {lo hi : Rat} (hE : ∀ j, j < W * H → lo ≤ e j ∧ e j ≤ hi) (hlh : lo ≤ hi) :
    ∃ lo' hi', (∀ i, i < W * H → lo' ≤ f i ∧ f i ≤ hi') ∧ (S : Rat) * (hi' - lo') ≤ ((S : Rat) - (D : Rat)) * (hi - lo) + 2 * ((S : Rat) * ((B : Rat) * μ)) := by
  obtain ⟨r, l1, l2⟩ := RepS.many (n := W * H) (S := S) (T := T) rfl hμ (by unfold unitR; simp) (by simp) (RepS.start (W * H) S μ e) m g
  have hb : ∀ i, i < W * H → (nI W H T m (List.replicate (W * H) 0)).getD i 0 ≤ B := fun i hi => by
    have h := List.all_eq_true.1 C.err
    rw [List.getD_eq_getElem?_getD, List.getElem?_eq_getElem (by omega)]
    have := h _ (List.getElem_mem (by omega : i < (nI W H T m (List.replicate (W * H) 0)).length))
    simpa using this
  obtain ⟨lo', hi', h1, h2⟩ := r.contract l1 hμ C.S0 hb hE
  refine ⟨lo', hi', h1, Rat.le_trans h2 ?_⟩
  have c := Rat.natCast_le_natCast.2 C.common
  have m := Rat.mul_le_mul_of_nonneg_right c (show (0 : Rat) ≤ hi - lo by grind)
  grind
end Go.Proofs.Ytmlocjcfcmifdaa
