/- Plain: what FnSolved is told: after sixty sweeps, what is missing is small, the mean nearly nothing, the energy nearly not negative. No program. -/
import Derived.Test.YtmlocjcfcmifdaaXv
import Derived.Test.YtmlocjcfcmifdaaXm
namespace Go.Proofs.Ytmlocjcfcmifdaa
open Ieee
set_option linter.unusedVariables false

/-! ### Sums of integers are exact -/
def isum (f : Nat → Int) : Nat → Int
  | 0 => 0
  | k + 1 => isum f k + f k
theorem isum_bd {f : Nat → Int} {n M : Nat} (hf : SmI f n M) : ∀ k, k ≤ n → (isum f k).natAbs ≤ M * k
  | 0, _ => by simp [isum]
  | k + 1, hk => by
    have ih := isum_bd hf k (by omega)
    have h := hf k (by omega)
    unfold isum
    rw [Nat.mul_succ]
    omega
theorem sA_iw {a b : Int} (ha : a.natAbs < 16777216) (hb : b.natAbs < 16777216) (hn : (a + b).natAbs < 16777216) : sA (iw a) (iw b) = iw (a + b) := by
  have h := add_wd (f := single) fit_single binade_le_single (k := 0) (by decide) ha hb hn
  unfold sA iw
  rw [h]
  rfl
theorem mS_iw {f : Nat → Int} {n : Nat} (hf : SmI f n 5) (hn : n ≤ 256) : ∀ k, k ≤ n → mS (fun i => iw (f i)) k = iw (isum f k)
  | 0, _ => by
    have e : iw 0 = 0 := wd_zero single 0
    show 0 = iw (isum f 0)
    rw [show isum f 0 = 0 from rfl, e]
  | k + 1, hk => by
    have ih := mS_iw hf hn k (by omega)
    have b1 := isum_bd hf k (by omega)
    have b2 := isum_bd hf (k + 1) hk
    have h := hf k (by omega)
    show sA (mS (fun i => iw (f i)) k) (iw (f k)) = _
    rw [ih]
    exact sA_iw (by omega) (by omega) (by show (isum f (k + 1)).natAbs < _; omega)
theorem rsum_iw {f : Nat → Int} {n : Nat} (hf : SmI f n 5) : ∀ k, k ≤ n → rsum (fun j => V single (iw (f j))) k = (isum f k : Rat)
  | 0, _ => rfl
  | k + 1, hk => by
    have ih := rsum_iw hf k (by omega)
    have v := (wn_iw (f k) 5 (hf k (by omega)) (by omega)).2
    show rsum _ k + V single (iw (f k)) = _
    rw [ih, v]
    show _ = ((isum f k + f k : Int) : Rat)
    rw [Rat.intCast_add]
theorem rsum_near {f g : Nat → Rat} {e : Rat} : ∀ n : Nat, (∀ j, j < n → Cl (f j) (g j) e) → Cl (rsum f n) (rsum g n) ((n : Rat) * e)
  | 0, _ => by
    have z : ((0 : Nat) : Rat) = 0 := rfl
    rw [z]; unfold rsum Cl; constructor <;> grind
  | n + 1, h => by
    have ih := rsum_near n (fun j hj => h j (by omega))
    have q := h n (by omega)
    have en : ((n + 1 : Nat) : Rat) = (n : Rat) + 1 := by simp
    rw [en]
    unfold rsum
    unfold Cl at *
    constructor <;> grind
theorem rsum_sub_const (f : Nat → Rat) (c : Rat) : ∀ n : Nat, rsum (fun j => f j - c) n = rsum f n - (n : Rat) * c
  | 0 => by
    have z : ((0 : Nat) : Rat) = 0 := rfl
    rw [z]; unfold rsum; grind
  | n + 1 => by
    have ih := rsum_sub_const f c n
    have en : ((n + 1 : Nat) : Rat) = (n : Rat) + 1 := by simp
    rw [en]
    unfold rsum
    rw [ih]; grind
theorem rsum_ge {f : Nat → Rat} {n i : Nat} (h : ∀ j, j < n → 0 ≤ f j) (hi : i < n) : f i ≤ rsum f n := by
  induction n with
  | zero => omega
  | succ n ih =>
    show _ ≤ rsum f n + f n
    by_cases e : i = n
    · subst e
      have := rsum_nonneg i (fun j hj => h j (by omega))
      grind
    · have := ih (fun j hj => h j (by omega)) (by omega)
      have := h n (by omega)
      grind
theorem rsum_range {f : Nat → Rat} {lo hi : Rat} : ∀ n : Nat, (∀ j, j < n → lo ≤ f j ∧ f j ≤ hi) → (n : Rat) * lo ≤ rsum f n ∧ rsum f n ≤ (n : Rat) * hi
  | 0, _ => by
    have z : ((0 : Nat) : Rat) = 0 := rfl
    rw [z]; unfold rsum; constructor <;> grind
  | n + 1, h => by
    obtain ⟨a, b⟩ := rsum_range n (fun j hj => h j (by omega))
    have q := h n (by omega)
    have en : ((n + 1 : Nat) : Rat) = (n : Rat) + 1 := by simp
    rw [en]
    unfold rsum
    constructor <;> grind

/-! ### Charges less their mean -/
theorem right_any {n : Nat} (hn0 : 1 ≤ n) (hn : n ≤ 42) (f : Nat → Int) (hf : SmI f n 5) :
    ∃ m r, MeanW n (fun i => iw (f i)) (mS fun i => iw (f i)) m r ∧ (∀ i, i < n → Wn (r i) (1003 / 100)) ∧ Cl (rsum (fun i => V single (r i)) n) 0 ((n : Rat) * (1 / 200000)) := by
  have q9 : p2 9 = 512 := by decide +kernel
  have q4 : p2 4 = 16 := by decide +kernel
  have u9 : ulp single 9 = 1 / 32768 := by decide +kernel
  have u6 : ulp single (4 + 2) = 1 / 262144 := by decide +kernel
  have u4 : ulp single 4 = 1 / 1048576 := by decide +kernel
  have wf : ∀ i, i < n → Wn (iw (f i)) 5 := fun i hi => (wn_iw (f i) 5 (hf i hi) (by omega)).1
  have nr : ((n : Nat) : Rat) ≤ 42 := by
    have h : ((n : Nat) : Rat) ≤ ((42 : Nat) : Rat) := Rat.natCast_le_natCast.2 hn
    exact h
  obtain ⟨m, r, M, _, _, cm, wc⟩ := mean_any (n := n) (a := fun i => iw (f i)) (B := 5) (E := 9) (F := 4) hn0 (by omega) wf (by grind) (by rw [q9]; grind) (by rw [u9]; grind) (by decide) (by decide) (by rw [q4]; grind) (by rw [u6]; grind) (by decide) (by decide)
  refine ⟨m, r, M, fun i hi => (wc i hi).1.mono (by grind), ?_⟩
  have s := rsum_near n (fun i hi => (wc i hi).2)
  rw [rsum_sub_const, rsum_iw hf n (Nat.le_refl _)] at s
  have e1 : V single (mS (fun i => iw (f i)) n) = (isum f n : Rat) := by
    rw [mS_iw hf (by omega) n (Nat.le_refl _)]
    have b := isum_bd hf n (Nat.le_refl _)
    exact (wn_iw (isum f n) 210 (by omega) (by omega)).2
  rw [e1, u6] at cm
  rw [u4] at s
  have n0 : (0 : Rat) ≤ (n : Rat) := Rat.natCast_nonneg
  unfold Cl at *
  constructor <;> grind

/-- The potential of what is given. -/
theorem pot_any {W H : Nat} (G : Gd W H) (r : Nat → Nat) : ∃ (p : Nat → Rat) (σ : Rat), (∀ i, i < W * H → lapR W H p i = V single (r i) - σ) ∧ σ * ((W * H : Nat) : Rat) = rsum (fun i => V single (r i)) (W * H) ∧ ∀ R : Rat, 0 ≤ R → (∀ j, j < W * H → Cl (V single (r j)) 0 R) → ∀ i, i < W * H → Cl (p i) 0 (7 / 4 * R) := by
  obtain ⟨p, h1, h2⟩ := greens G (fun i => V single (r i))
  have n16 : 16 ≤ W * H := Nat.mul_le_mul (m₁ := 4) (n₁ := 4) G.1.1 G.2.1
  have n0 : (0 : Rat) < ((W * H : Nat) : Rat) := Rat.natCast_pos.2 (by omega)
  refine ⟨p, _, h1, ?_, h2⟩
  rw [Rat.mul_assoc, Rat.inv_mul_cancel _ (by grind), Rat.mul_one]

theorem n_le {W H : Nat} (G : Gd W H) : 16 ≤ W * H ∧ W * H ≤ 42 ∧ ((W * H : Nat) : Rat) ≤ 42 ∧ (16 : Rat) ≤ ((W * H : Nat) : Rat) := by
  have a : W * H ≤ 42 := Nat.mul_le_mul (n₂ := 7) (m₂ := 6) G.1.2 G.2.2
  have b : 16 ≤ W * H := Nat.mul_le_mul (m₁ := 4) (n₁ := 4) G.1.1 G.2.1
  have a' : ((W * H : Nat) : Rat) ≤ ((42 : Nat) : Rat) := Rat.natCast_le_natCast.2 a
  have b' : ((16 : Nat) : Rat) ≤ ((W * H : Nat) : Rat) := Rat.natCast_le_natCast.2 b
  exact ⟨b, a, a', b'⟩

/-- What is right by a field less its mean, and its sum. -/
structure Rhs (W H : Nat) (r : Nat → Nat) (p : Nat → Rat) (σ : Rat) : Prop where
  wr : ∀ i, i < W * H → Wn (r i) (1003 / 100)
  eq : ∀ i, i < W * H → lapR W H p i = V single (r i) - σ
  hs : σ * ((W * H : Nat) : Rat) = rsum (fun i => V single (r i)) (W * H)
  bp : ∀ R : Rat, 0 ≤ R → (∀ j, j < W * H → Cl (V single (r j)) 0 R) → ∀ i, i < W * H → Cl (p i) 0 (7 / 4 * R)
  bs : Cl σ 0 (1 / 200000)
theorem rhs_any {W H : Nat} (G : Gd W H) {r : Nat → Nat} (wr : ∀ i, i < W * H → Wn (r i) (1003 / 100)) (hs : Cl (rsum (fun i => V single (r i)) (W * H)) 0 (((W * H : Nat) : Rat) * (1 / 200000))) : ∃ p σ, Rhs W H r p σ := by
  obtain ⟨p, σ, h1, h2, h3⟩ := pot_any G r
  obtain ⟨_, _, _, n16⟩ := n_le G
  refine ⟨p, σ, wr, h1, h2, h3, ?_⟩
  rw [← h2] at hs
  exact cl_of_mul (N := ((W * H : Nat) : Rat)) (by grind) (by rw [Rat.mul_comm (1 / 200000)]; exact hs)
theorem Rhs.swin {W H : Nat} {r : Nat → Nat} {p : Nat → Rat} {σ : Rat} (I : Rhs W H r p σ) : SwIn W H r p (176 / 10) :=
  ⟨fun i hi => (I.wr i hi).mono (by grind), ⟨σ, I.bs.mono (by grind), fun i hi => I.eq i hi⟩, fun i hi => (I.bp (1003 / 100) (by grind) (fun j hj => (I.wr j hj).bd) i hi).mono (by grind)⟩

/-- After sixty sweeps from nothing. -/
theorem sixty {W H : Nat} (G : Gd W H) {r : Nat → Nat} {p : Nat → Rat} {σ : Rat} (I : Rhs W H r p σ) :
    OkI W H r (fun _ => 0) 60 ∧ (∀ i, i < W * H → Wn (swI W H r 60 (fun _ => 0) i) 36) ∧ ∃ l h, (∀ i, i < W * H → l ≤ V single (swI W H r 60 (fun _ => 0) i) - p i ∧ V single (swI W H r 60 (fun _ => 0) i) - p i ≤ h) ∧ l ≤ h ∧ h - l ≤ 1 / 850 := by
  obtain ⟨n16, _, n42, _⟩ := n_le G
  have S := I.swin
  have e60 : ((60 : Nat) : Rat) = 60 := rfl
  have D0 : Dst W H p (fun _ => 0) (176 / 10) := fun i hi => ⟨nm0.1, by rw [nm0.2]; have := S.bp i hi; unfold Cl at *; constructor <;> grind⟩
  obtain ⟨d1, d2, d3⟩ := S.many D0 60 (by rw [e60]; grind)
  refine ⟨d3, fun i hi => ⟨(d1 i hi).1, ?_⟩, ?_⟩
  · have h1 := (d1 i hi).2
    have h2 := S.bp i hi
    rw [e60] at h1
    unfold Cl at *
    constructor <;> grind
  · have hE : ∀ j, j < W * H → -(176 / 10 : Rat) ≤ errE p (fun _ => 0) j ∧ errE p (fun _ => 0) j ≤ 176 / 10 := fun j hj => by
      have := (D0 j hj).2
      unfold errE
      unfold Cl at this
      constructor <;> grind
    obtain ⟨l, h, a, b, c⟩ := osc_many G (ν := 1 / 33000) (a := 352 / 10) (by grind) hE (by grind) (by grind) 10 d2
    refine ⟨l, h, a, b, Rat.le_trans c ?_⟩
    have t : (27 / 100 : Rat) ^ 10 ≤ 21 / 10000000 := by decide +kernel
    grind

/-! ### What is missing -/
theorem lap_k {W H : Nat} (hS : Sd W H) {v : Nat → Nat} {B : Rat} {E : Int} (hv : ∀ i, i < W * H → Wn (v i) B) (hE : 8 * B + 1 ≤ p2 E) (hu : ulp single E ≤ 1 / 8) (e0 : -100 ≤ E) (e1 : E ≤ 100) :
    LapW W H v (lapA W H v) ∧ ∀ k, k < W * H → Nm single (lapA W H v k 4) ∧ Cl (V single (lapA W H v k 4)) (lapR W H (fun i => V single (v i)) k) (5 * ulp single E) := by
  obtain ⟨a, b⟩ := lap_any hS hv hE hu e0 e1
  refine ⟨a, fun k hk => ?_⟩
  obtain ⟨x, y, hx, hy, rfl⟩ := split_k hk
  have up : ix W H x ((y : Int) - 1) = x + W * pv H y := by
    rw [ix_up W H x y hx hy]
    by_cases e : y = 0
    · rw [if_pos e, e, pv_zero (by omega)]
    · rw [if_neg e, pv_pos (by omega) hy]
  have dn : ix W H x ((y : Int) + 1) = x + W * nx H y := by
    rw [ix_down W H x y hx hy]
    by_cases e : y + 1 = H
    · rw [if_pos e]
      obtain rfl : y = H - 1 := by omega
      rw [nx_last (by omega)]
    · rw [if_neg e, nx_in (by omega)]
  have h := b x y hx hy
  rw [ix_left W H x y hx hy, ix_right W H x y hx hy, up, dn] at h
  unfold lapR
  rw [(nb_in hx).1, (nb_in hx).2.1, (nb_in hx).2.2.1, (nb_in hx).2.2.2]
  exact h
theorem abs_any {x : Nat} {B : Rat} (h : Wn x B) (E : Int) (hE : B ≤ p2 E) (X : Ex single E) : ∃ y, AbsW x y ∧ Wn y (B + ulp single E) := by
  obtain ⟨s, m, i, hr⟩ := h.nm
  obtain ⟨r, hr1, hw, hread, hsm⟩ := widen_number (b := x) hr
  have hsw : double.infRung < double.signWeight := by decide
  have e0 : widen x % 9223372036854775808 = double.word false r := by
    rw [hw]
    have e : double.signWeight = 9223372036854775808 := by decide
    unfold Format.word
    rw [e] at hsw ⊢
    by_cases q : s = true
    · rw [if_pos q, if_neg (by decide), Nat.add_mod_left, Nat.mod_eq_of_lt (by omega)]
    · rw [if_neg q, if_neg (by decide), Nat.mod_eq_of_lt (by omega)]
  have rd := read_word double false r hr1
  have va : Cl (V double (double.word false r)) 0 B := by
    rw [V_of rd]
    have b := h.bd
    rw [V_of hr] at b
    have hv : (m : Rat) * p2 i = (rungMag double r : Rat) * p2 (rungPlace double r) := hsm.val
    have b2 := vn_abs b
    have b3 := mag_nonneg (rungMag double r) (rungPlace double r)
    unfold vn sr
    simp only [Bool.false_eq_true, if_false]
    unfold Cl
    constructor <;> grind
  obtain ⟨y, h1, h2, h3, _⟩ := narrow_V (b := double.word false r) ⟨_, _, _, rd⟩ E (va.mono hE) X
  exact ⟨y, ⟨xftf_widen h.nm, by rw [e0]; exact h1⟩, h2, (h3.trans va).mono (by grind)⟩
theorem mxS_wn {x y : Nat} {B : Rat} (hx : Wn x B) (hy : Wn y B) : single.order x y ≠ none ∧ Wn (mxS x y) B := by
  have o := order_V hx.nm hy.nm
  constructor
  · rw [o]; intro h; cases h
  · unfold mxS
    rw [o]
    split
    · exact hy
    · exact hx
    · split
      · exact hy
      · exact hx
def mM (y : Nat → Nat) : Nat → Nat
  | 0 => 0
  | k + 1 => mxS (mM y k) (y k)
theorem self_eq {x : Nat} (h : Nm single x) : FloatKind.f32.format.order x x = some .eq := by
  have o := order_V h h
  rw [if_neg (by grind), if_pos rfl] at o
  exact o
theorem res_any {n : Nat} {q : Nat → Nat} {B : Rat} (hq : ∀ i, i < n → Wn (q i) B) (hB : 0 ≤ B) (E : Int) (hE : B ≤ p2 E) (X : Ex single E) : ∃ y M, ResW n q y M ∧ Wn (M n) (B + ulp single E) := by
  have h : ∀ i, ∃ y, i < n → AbsW (q i) y ∧ Wn y (B + ulp single E) := fun i => by
    by_cases hi : i < n
    · obtain ⟨y, a, b⟩ := abs_any (hq i hi) E hE X
      exact ⟨y, fun _ => ⟨a, b⟩⟩
    · exact ⟨0, fun h => absurd h hi⟩
  obtain ⟨y, hy⟩ := Classical.axiomOfChoice h
  have up := ulp_pos single E
  have M : ∀ k, k ≤ n → Wn (mM y k) (B + ulp single E) := by
    intro k
    induction k with
    | zero => intro _; exact ⟨nm0.1, by show Cl (V single 0) 0 _; rw [nm0.2]; unfold Cl; constructor <;> grind⟩
    | succ k ih => intro hk; exact (mxS_wn (ih (by omega)) (hy k (by omega)).2).2
  exact ⟨y, mM y, ⟨fun i hi => self_eq (hq i hi).nm, fun i hi => (hy i hi).1, rfl, fun i hi => (mxS_wn (M i (by omega)) (hy i hi).2).1, fun i _ => rfl⟩, M n (Nat.le_refl _)⟩

/-! ### The potential less its mean -/
/-- A field of words, less its mean; where its numbers lie between two. -/
theorem less_any {n : Nat} (hn0 : 1 ≤ n) (hn : n ≤ 42) {v : Nat → Nat} (wv : ∀ i, i < n → Wn (v i) 36) :
    ∃ m o, MeanW n v (mS v) m o ∧ (∀ i, i < n → Nm single (o i) ∧ Cl (V single (o i)) (V single (v i) - V single m) (1 / 131072)) ∧ Cl (rsum (fun i => V single (o i)) n) 0 ((n : Rat) * (1 / 5500)) ∧
      ∀ lo hi : Rat, (∀ i, i < n → lo ≤ V single (v i) ∧ V single (v i) ≤ hi) → lo - 1 / 5500 ≤ V single m ∧ V single m ≤ hi + 1 / 5500 ∧ ∀ i, i < n → Wn (o i) (hi - lo + 1 / 5000) := by
  have q11 : p2 11 = 2048 := by decide +kernel
  have q7 : p2 7 = 128 := by decide +kernel
  have u11 : ulp single 11 = 1 / 8192 := by decide +kernel
  have u9 : ulp single (7 + 2) = 1 / 32768 := by decide +kernel
  have u7 : ulp single 7 = 1 / 131072 := by decide +kernel
  have nr : ((n : Nat) : Rat) ≤ 42 := by
    have h : ((n : Nat) : Rat) ≤ ((42 : Nat) : Rat) := Rat.natCast_le_natCast.2 hn
    exact h
  have n0 : (0 : Rat) < (n : Rat) := Rat.natCast_pos.2 (by omega)
  obtain ⟨m, o, M, cS, wm, cm, wo⟩ := mean_any (n := n) (a := v) (B := 36) (E := 11) (F := 7) hn0 (by omega) wv (by grind) (by rw [q11]; grind) (by rw [u11]; grind) (by decide) (by decide) (by rw [q7]; grind) (by rw [u9]; grind) (by decide) (by decide)
  have c1 := (cS n (Nat.le_refl _)).2
  rw [u11] at c1
  rw [u9] at cm
  have key : ∀ a : Rat, (n : Rat) * a ≤ (n : Rat) * (V single m) → a ≤ V single m := fun a h => by
    rcases Rat.le_total (a := a) (b := V single m) with h0 | h0
    · exact h0
    · have h9 : 0 ≤ (n : Rat) * (a - V single m) := Rat.mul_nonneg (by grind) (by grind)
      have h8 : (n : Rat) * (a - V single m) = 0 := by grind
      rcases Rat.mul_eq_zero.1 h8 with h6 | h6 <;> grind
  have key2 : ∀ a : Rat, (n : Rat) * (V single m) ≤ (n : Rat) * a → V single m ≤ a := fun a h => by
    rcases Rat.le_total (a := V single m) (b := a) with h0 | h0
    · exact h0
    · have h9 : 0 ≤ (n : Rat) * (V single m - a) := Rat.mul_nonneg (by grind) (by grind)
      have h8 : (n : Rat) * (V single m - a) = 0 := by grind
      rcases Rat.mul_eq_zero.1 h8 with h6 | h6 <;> grind
  have wo' : ∀ i, i < n → Nm single (o i) ∧ Cl (V single (o i)) (V single (v i) - V single m) (1 / 131072) := fun i hi => by
    have w := (wo i hi).2
    rw [u7] at w
    exact ⟨(wo i hi).1.nm, w⟩
  refine ⟨m, o, M, wo', ?_, fun lo hi hv => ?_⟩
  · have s := rsum_near n (fun i hi' => (wo' i hi').2)
    rw [rsum_sub_const] at s
    unfold Cl at *
    constructor <;> grind
  · obtain ⟨r1, r2⟩ := rsum_range n hv
    have m1 : lo - 1 / 5500 ≤ V single m := key _ (by unfold Cl at *; grind)
    have m2 : V single m ≤ hi + 1 / 5500 := key2 _ (by unfold Cl at *; grind)
    refine ⟨m1, m2, fun i hi' => ⟨(wo' i hi').1, ?_⟩⟩
    have w := (wo' i hi').2
    have q := hv i hi'
    unfold Cl at *
    constructor <;> grind
end Go.Proofs.Ytmlocjcfcmifdaa
