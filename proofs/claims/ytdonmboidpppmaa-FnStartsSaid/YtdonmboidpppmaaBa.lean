/- Plain: products, quotients, lengths, gaps of words, by their chains of operations, and how near they come to the ideal. No program. -/
import Derived.Test.YtdonmboidpppmaaAp
namespace Go.Proofs.Ytdonmboidpppmaa
open Ieee Go

/-! ### Signs -/
theorem bread_neg (f : Format) (b : Nat) : f.read (b ^^^ f.signWeight) = (f.read b).opposite := by
  have hp : 0 < f.signWeight := Nat.two_pow_pos _
  have e1 : (b ^^^ f.signWeight) % f.signWeight = b % f.signWeight := by
    unfold Format.signWeight
    rw [Nat.xor_mod_two_pow, Nat.mod_self, Nat.xor_zero]
  have e2 : (b ^^^ f.signWeight) / f.signWeight = b / f.signWeight ^^^ 1 := by
    rw [show f.signWeight = 2 ^ (f.exponentBits + f.fractionBits) from rfl, Nat.xor_div_two_pow, Nat.div_self (Nat.two_pow_pos _)]
  have e3 : ((b / f.signWeight ^^^ 1) % 2 == 1) = !(b / f.signWeight % 2 == 1) := by
    have h := Nat.xor_mod_two_pow (a := b / f.signWeight) (b := 1) (n := 1)
    rw [show (2 : Nat) ^ 1 = 2 from rfl] at h
    rw [h]
    have h2 : b / f.signWeight % 2 < 2 := Nat.mod_lt _ (by decide)
    generalize b / f.signWeight % 2 = q at *
    obtain rfl | rfl : q = 0 ∨ q = 1 := by omega
    · rfl
    · rfl
  unfold Format.read
  simp only [e1, e2, e3]
  split
  · rfl
  · split
    · rfl
    · split <;> rfl
theorem neg32_V {b : Nat} (h : Nm single b) : Nm single (Op.negFloat .f32 b) ∧ V single (Op.negFloat .f32 b) = -V single b := by
  obtain ⟨s, m, i, h⟩ := h
  have e : single.read (Op.negFloat .f32 b) = .number (!s) m i := by
    rw [show Op.negFloat .f32 b = b ^^^ single.signWeight from rfl, bread_neg, h]; rfl
  refine ⟨⟨_, _, _, e⟩, ?_⟩
  rw [V_of e, V_of h]
  unfold vn sr
  cases s <;> simp <;> grind
theorem neg64_V {b : Nat} (h : Nm double b) : Nm double (Op.negFloat .f64 b) ∧ V double (Op.negFloat .f64 b) = -V double b := by
  obtain ⟨s, m, i, h⟩ := h
  have e : double.read (Op.negFloat .f64 b) = .number (!s) m i := by
    rw [show Op.negFloat .f64 b = b ^^^ double.signWeight from rfl, bread_neg, h]; rfl
  refine ⟨⟨_, _, _, e⟩, ?_⟩
  rw [V_of e, V_of h]
  unfold vn sr
  cases s <;> simp <;> grind
theorem Ap.neg32 {x : Nat} {v e B : Rat} (h : Ap single x v e B) : Ap single (Op.negFloat .f32 x) (-v) e B := by
  obtain ⟨n, q⟩ := neg32_V h.nm
  refine ⟨n, by rw [q]; exact h.cl.neg, ?_⟩
  have := h.bd
  unfold Cl at *
  grind

theorem read_low {x : Nat} {s : Bool} {m : Nat} {i : Int} (hx : x < double.signWeight) (h : double.read x = .number s m i) : s = false ∧ (m = 0 → x = 0) := by
  have hd : x / double.signWeight = 0 := Nat.div_eq_of_lt hx
  have hm : x % double.signWeight = x := Nat.mod_eq_of_lt hx
  unfold Format.read at h
  simp only [hd, hm] at h
  have hb := binade_pos double
  split at h
  · injection h with h1 h2 h3
    exact ⟨by rw [← h1]; rfl, fun e => h2.trans e⟩
  · split at h
    · injection h with h1 h2 h3
      exact ⟨by rw [← h1]; rfl, fun e => by omega⟩
    · split at h <;> cases h
theorem V_low {x : Nat} (n : Nm double x) (hx : x < double.signWeight) : 0 ≤ V double x ∧ (V double x = 0 → x = 0) := by
  obtain ⟨s, m, i, h⟩ := n
  obtain ⟨rfl, h2⟩ := read_low hx h
  rw [V_of h]
  have e : vn false m i = (m : Rat) * p2 i := by unfold vn sr; simp
  rw [e]
  refine ⟨mag_nonneg m i, fun h0 => h2 ?_⟩
  rcases Rat.mul_eq_zero.1 h0 with h1 | h1
  · exact Rat.natCast_eq_zero_iff.1 h1
  · have := p2_pos i; grind
theorem nearest_low (m : Nat) (i : Int) : double.nearest false m i < double.signWeight := by
  have hi : double.infRung < double.signWeight := by decide +kernel
  have h0 : 0 < double.signWeight := by decide +kernel
  have hw : ∀ k : Nat, double.word false k = k := fun k => rfl
  generalize double.signWeight = W at *
  generalize hI : double.infRung = I at *
  unfold Format.nearest
  rw [hI]
  split
  · rw [hw]; exact h0
  · simp only [hw]
    exact Nat.lt_of_le_of_lt (Nat.min_le_right _ _) hi
theorem self_mul_low {x r : Nat} (n : Nm double x) (h : double.mul x x = some r) : r < double.signWeight := by
  obtain ⟨s, m, i, e⟩ := n
  unfold Format.mul at h
  rw [e] at h
  have e2 : Datum.product (.number s m i) (.number s m i) = some (.number (s ^^ s) (m * m) (i + i)) := rfl
  rw [e2] at h
  injection h with h
  rw [← h, Bool.xor_self]
  exact nearest_low _ _
theorem add_low {x y r : Nat} (nx : Nm double x) (ny : Nm double y) (hx : x < double.signWeight) (hy : y < double.signWeight) (h : double.add x y = some r) : r < double.signWeight := by
  obtain ⟨s, m, i, e⟩ := nx
  obtain ⟨t, n, j, g⟩ := ny
  obtain ⟨rfl, _⟩ := read_low hx e
  obtain ⟨rfl, _⟩ := read_low hy g
  unfold Format.add at h
  rw [e, g] at h
  simp only [Datum.sum, Option.map_some, Option.some.injEq] at h
  have ht : (signed false m (i - min i j).toNat + signed false n (j - min i j).toNat < 0) = False := by
    simp only [signed, Bool.false_eq_true, if_false, eq_iff_iff, iff_false]
    have q1 := Int.mul_nonneg (Int.natCast_nonneg m) (Int.natCast_nonneg (2 ^ (i - min i j).toNat))
    have q2 := Int.mul_nonneg (Int.natCast_nonneg n) (Int.natCast_nonneg (2 ^ (j - min i j).toNat))
    omega
  have e3 : (if signed false m (i - min i j).toNat + signed false n (j - min i j).toNat = 0 then (false && false) else decide (signed false m (i - min i j).toNat + signed false n (j - min i j).toNat < 0)) = false := by
    split
    · rfl
    · simp only [ht, decide_false]
  rw [e3] at h
  rw [← h]
  exact nearest_low _ _

theorem bself_nonneg (a : Rat) : 0 ≤ a * a := by
  rcases Rat.le_total (a := 0) (b := a) with h | h
  · exact Rat.mul_nonneg h h
  · have := Rat.mul_nonneg (a := -a) (b := -a) (by grind) (by grind)
    grind
theorem le_of_mul {q N B : Rat} (hN : 0 < N) (h : q * N ≤ B * N) : q ≤ B := by
  rcases Rat.le_total (a := q) (b := B) with h0 | h0
  · exact h0
  · have h9 : 0 ≤ (q - B) * N := Rat.mul_nonneg (by grind) (by grind)
    have h8 : (q - B) * N = 0 := by grind
    rcases Rat.mul_eq_zero.1 h8 with h6 | h6 <;> grind
theorem quo_bd {q N v B : Rat} (hN : 0 < N) (hq : q * N = v) (h : Cl v 0 (B * N)) : Cl q 0 B := by
  subst hq
  unfold Cl at *
  exact ⟨by have := le_of_mul (q := q) (B := B) hN (by grind); grind, by have := le_of_mul (q := -q) (B := B) hN (by grind); grind⟩

/-! ### Products -/
def ProdW (a b c d p q : Nat) : Prop := ∃ A B C D p1 p2' q1 q2, floatToFloatBits .f32 a .f64 = some A ∧ floatToFloatBits .f32 b .f64 = some B ∧ floatToFloatBits .f32 c .f64 = some C ∧ floatToFloatBits .f32 d .f64 = some D ∧ floatBits .mul .f64 A C = some p1 ∧ floatBits .mul .f64 B D = some p2' ∧ floatBits .sub .f64 p1 p2' = some p ∧ floatBits .mul .f64 A D = some q1 ∧ floatBits .mul .f64 B C = some q2 ∧ floatBits .add .f64 q1 q2 = some q
theorem prod_near {a b c d : Nat} {A C : Rat} (na : Nm single a) (nb : Nm single b) (nc : Nm single c) (nd : Nm single d) (ba : Cl (V single a) 0 A) (bb : Cl (V single b) 0 A) (bc : Cl (V single c) 0 C) (bd : Cl (V single d) 0 C) (E : Int) (X : Ex double E) (hE : 2 * (A * C) + 1 ≤ p2 E) (hu : 2 * ulp double E ≤ 1) {η : Rat} (hη : 3 * ulp double E ≤ η) :
    ∃ p q, ProdW a b c d p q ∧ Ap double p (V single a * V single c - V single b * V single d) η (2 * (A * C)) ∧ Ap double q (V single a * V single d + V single b * V single c) η (2 * (A * C)) := by
  have u0 := ulp_pos double E
  have hA := ba.nonneg
  have hC := bc.nonneg
  have hAC := Rat.mul_nonneg hA hC
  obtain ⟨wA, eA, hA'⟩ := (Ap.self na ba).widen
  obtain ⟨wB, eB, hB'⟩ := (Ap.self nb bb).widen
  obtain ⟨wC, eC, hC'⟩ := (Ap.self nc bc).widen
  obtain ⟨wD, eD, hD'⟩ := (Ap.self nd bd).widen
  obtain ⟨p1, e1, h1⟩ := hA'.mul good_double hC' E X (e' := ulp double E) (B' := A * C) (by grind) (by grind) (by grind)
  obtain ⟨p2', e2, h2⟩ := hB'.mul good_double hD' E X (e' := ulp double E) (B' := A * C) (by grind) (by grind) (by grind)
  obtain ⟨p, e3, h3⟩ := h1.sub good_double h2 E X (e' := η) (B' := 2 * (A * C)) (by grind) (by grind) (by grind)
  obtain ⟨q1, e4, h4⟩ := hA'.mul good_double hD' E X (e' := ulp double E) (B' := A * C) (by grind) (by grind) (by grind)
  obtain ⟨q2, e5, h5⟩ := hB'.mul good_double hC' E X (e' := ulp double E) (B' := A * C) (by grind) (by grind) (by grind)
  obtain ⟨q, e6, h6⟩ := h4.add good_double h5 E X (e' := η) (B' := 2 * (A * C)) (by grind) (by grind) (by grind)
  exact ⟨p, q, ⟨wA, wB, wC, wD, p1, p2', q1, q2, eA, eB, eC, eD, e1, e2, e3, e4, e5, e6⟩, h3, h6⟩
def MulW (a b c d re im : Nat) : Prop := ∃ p q, ProdW a b c d p q ∧ floatToFloatBits .f64 p .f32 = some re ∧ floatToFloatBits .f64 q .f32 = some im
theorem mul_cl {a b c d : Nat} {A C : Rat} (na : Nm single a) (nb : Nm single b) (nc : Nm single c) (nd : Nm single d) (ba : Cl (V single a) 0 A) (bb : Cl (V single b) 0 A) (bc : Cl (V single c) 0 C) (bd : Cl (V single d) 0 C) (E : Int) (X : Ex double E) (hE : 2 * (A * C) + 1 ≤ p2 E) (hu : 2 * ulp double E ≤ 1) {η : Rat} (hη : 3 * ulp double E ≤ η) (F : Int) (Y : Ex single F) (hF : 2 * (A * C) + η ≤ p2 F) {e' : Rat} (he : η + ulp single F ≤ e') :
    ∃ re im, MulW a b c d re im ∧ Ap single re (V single a * V single c - V single b * V single d) e' (2 * (A * C)) ∧ Ap single im (V single a * V single d + V single b * V single c) e' (2 * (A * C)) := by
  obtain ⟨p, q, hw, hp, hq⟩ := prod_near na nb nc nd ba bb bc bd E X hE hu hη
  obtain ⟨re, e1, h1⟩ := hp.narrow F Y hF he
  obtain ⟨im, e2, h2⟩ := hq.narrow F Y hF he
  exact ⟨re, im, ⟨p, q, hw, e1, e2⟩, h1, h2⟩

/-! ### Powers, quotients, lengths -/
def PowW (a b r : Nat) : Prop := ∃ A B p q, floatToFloatBits .f32 a .f64 = some A ∧ floatToFloatBits .f32 b .f64 = some B ∧ floatBits .mul .f64 A A = some p ∧ floatBits .mul .f64 B B = some q ∧ floatBits .add .f64 p q = some r
theorem pow_near {a b : Nat} {A : Rat} (na : Nm single a) (nb : Nm single b) (ba : Cl (V single a) 0 A) (bb : Cl (V single b) 0 A) (E : Int) (X : Ex double E) (hE : 2 * (A * A) + 1 ≤ p2 E) (hu : 2 * ulp double E ≤ 1) {η : Rat} (hη : 3 * ulp double E ≤ η) :
    ∃ r, PowW a b r ∧ Ap double r (V single a * V single a + V single b * V single b) η (2 * (A * A)) ∧ 0 ≤ V double r ∧ (V double r = 0 → r = 0) := by
  have u0 := ulp_pos double E
  have hA := ba.nonneg
  have hAC := Rat.mul_nonneg hA hA
  obtain ⟨wA, eA, hA'⟩ := (Ap.self na ba).widen
  obtain ⟨wB, eB, hB'⟩ := (Ap.self nb bb).widen
  obtain ⟨p1, e1, h1⟩ := hA'.mul good_double hA' E X (e' := ulp double E) (B' := A * A) (by grind) (by grind) (by grind)
  obtain ⟨p2', e2, h2⟩ := hB'.mul good_double hB' E X (e' := ulp double E) (B' := A * A) (by grind) (by grind) (by grind)
  obtain ⟨r, e3, h3⟩ := h1.add good_double h2 E X (e' := η) (B' := 2 * (A * A)) (by grind) (by grind) (by grind)
  have low := add_low h1.nm h2.nm (self_mul_low hA'.nm e1) (self_mul_low hB'.nm e2) e3
  exact ⟨r, ⟨wA, wB, p1, p2', eA, eB, e1, e2, e3⟩, h3, V_low h3.nm low⟩
def QuotW (a b c d re im : Nat) : Prop := ∃ p q r s t, ProdW a b c (Op.negFloat .f32 d) p q ∧ PowW c d r ∧ floatBits .quo .f64 p r = some s ∧ floatBits .quo .f64 q r = some t ∧ floatToFloatBits .f64 s .f32 = some re ∧ floatToFloatBits .f64 t .f32 = some im
theorem quot_near {a b c d : Nat} {A C : Rat} (na : Nm single a) (nb : Nm single b) (nc : Nm single c) (nd : Nm single d) (ba : Cl (V single a) 0 A) (bb : Cl (V single b) 0 A) (bc : Cl (V single c) 0 C) (bd : Cl (V single d) 0 C) (E : Int) (X : Ex double E) (hE : 2 * (A * C) + 1 ≤ p2 E) (hE2 : 2 * (C * C) + 1 ≤ p2 E) (hu : 2 * ulp double E ≤ 1) {η : Rat} (hη : 3 * ulp double E ≤ η)
    (x y Q c0 k : Rat) (hx : x * (V single c * V single c + V single d * V single d) = V single a * V single c + V single b * V single d) (hy : y * (V single c * V single c + V single d * V single d) = V single b * V single c - V single a * V single d) (bx : Cl x 0 Q) (bY : Cl y 0 Q) (hc0 : c0 ≤ V single c * V single c + V single d * V single d) (hη0 : η < c0) (hk : η + Q * η ≤ k * (c0 - η))
    (G : Int) (Z : Ex double (G + 1)) (hG : Q + k ≤ p2 G) {κ : Rat} (hκ : k + ulp double (G + 2) ≤ κ) (F : Int) (Y : Ex single F) (hF : Q + κ ≤ p2 F) {e' : Rat} (he : κ + ulp single F ≤ e') :
    ∃ re im, QuotW a b c d re im ∧ Ap single re x e' Q ∧ Ap single im y e' Q := by
  obtain ⟨nd', vd'⟩ := neg32_V nd
  have bd' : Cl (V single (Op.negFloat .f32 d)) 0 C := by rw [vd']; unfold Cl at *; grind
  obtain ⟨p, q, hw, hp, hq⟩ := prod_near na nb nc nd' ba bb bc bd' E X hE hu hη
  obtain ⟨r, hr, ar, _, _⟩ := pow_near nc nd bc bd E X hE2 hu hη
  rw [vd'] at hp hq
  obtain ⟨s, e1, h1⟩ := hp.div good_double ar x Q c0 k (by rw [hx]; grind) bx hc0 hη0 hk G Z (by decide) hG hκ
  obtain ⟨t, e2, h2⟩ := hq.div good_double ar y Q c0 k (by rw [hy]; grind) bY hc0 hη0 hk G Z (by decide) hG hκ
  obtain ⟨re, e3, h3⟩ := h1.narrow F Y hF he
  obtain ⟨im, e4, h4⟩ := h2.narrow F Y hF he
  exact ⟨re, im, ⟨p, q, r, s, t, hw, hr, e1, e2, e3, e4⟩, h3, h4⟩
def LongW (a b L : Nat) : Prop := ∃ r R, PowW a b r ∧ double.sqrt r = some R ∧ floatToFloatBits .f64 R .f32 = some L
/-- A length is no further than δ from the true one (which may be no rational number). -/
structure Len (L : Nat) (v δ : Rat) : Prop where
  nm : Nm single L
  pos : 0 ≤ V single L
  low : ∀ z : Rat, 0 ≤ z → z * z ≤ v → z ≤ V single L + δ
  high : ∀ z : Rat, 0 ≤ z → v ≤ z * z → V single L ≤ z + δ
theorem long_near {a b : Nat} {A : Rat} (na : Nm single a) (nb : Nm single b) (ba : Cl (V single a) 0 A) (bb : Cl (V single b) 0 A) (E : Int) (X : Ex double E) (hE : 2 * (A * A) + 1 ≤ p2 E) (hu : 2 * ulp double E ≤ 1) {η : Rat} (hη : 3 * ulp double E ≤ η)
    (G : Int) (Z : Ex double (G + 1)) (hG : 2 * (A * A) + η ≤ p2 G * p2 G) (t : Rat) (t0 : 0 ≤ t) (ht : η ≤ t * t) (F : Int) (Y : Ex single F) (hF : p2 G + ulp double (G + 2) ≤ p2 F) {δ : Rat} (hδ : t + ulp double (G + 2) + ulp single F ≤ δ) :
    ∃ L, LongW a b L ∧ Len L (V single a * V single a + V single b * V single b) δ := by
  obtain ⟨r, hr, ar, r0, rz⟩ := pow_near na nb ba bb E X hE hu hη
  have rb := ar.abs
  obtain ⟨R, hR, nR, R0, lo, hi⟩ := sqrt_near good_double ar.nm r0 rz G (by unfold Cl at rb; grind) Z
  have pG := p2_pos G
  have RB := hi (p2 G) (by grind) (by unfold Cl at rb; grind)
  obtain ⟨L, hL, nL, cL, pL⟩ := narrow_V nR F (by unfold Cl; constructor <;> grind) Y
  refine ⟨L, ⟨r, R, hr, hR, hL⟩, nL, pL R0, fun z z0 hz => ?_, fun z z0 hz => ?_⟩
  · have c := ar.cl
    unfold Cl at c cL
    rcases Rat.le_total (a := z) (b := t) with h | h
    · have := ulp_pos double (G + 2)
      have := ulp_pos single F
      grind
    · have e1 : (z - t) * (z - t) ≤ V double r := by
        have := Rat.mul_nonneg (a := z - t) (b := t) (by grind) t0
        grind
      have := lo (z - t) (by grind) e1
      grind
  · have c := ar.cl
    unfold Cl at c cL
    have e1 : V double r ≤ (z + t) * (z + t) := by
      have := Rat.mul_nonneg z0 t0
      grind
    have := hi (z + t) (by grind) e1
    grind

/-! ### Gaps -/
def mx (s t : Nat) : Nat := match double.order s t with
  | some .lt => t
  | some .gt => s
  | _ => if (double.read s).neg then t else s
theorem mx_V {s t : Nat} (ns : Nm double s) (nt : Nm double t) : Nm double (mx s t) ∧ ((V double s ≤ V double t ∧ V double (mx s t) = V double t) ∨ (V double t ≤ V double s ∧ V double (mx s t) = V double s)) := by
  have o := order_V ns nt
  unfold mx
  rw [o]
  by_cases h1 : V double s < V double t
  · rw [if_pos h1]
    exact ⟨nt, .inl ⟨by grind, rfl⟩⟩
  · rw [if_neg h1]
    by_cases h2 : V double s = V double t
    · rw [if_pos h2]
      simp only
      split
      · exact ⟨nt, .inl ⟨by grind, rfl⟩⟩
      · exact ⟨ns, .inr ⟨by grind, rfl⟩⟩
    · rw [if_neg h2]
      exact ⟨ns, .inr ⟨by grind, rfl⟩⟩
def GapW (x y G : Nat) : Prop := ∃ s t, floatBits .sub .f64 x y = some s ∧ floatBits .sub .f64 y x = some t ∧ Nm double s ∧ Nm double t ∧ G = mx s t
theorem gap_near {x y : Nat} (nx : Nm double x) (ny : Nm double y) (D : Rat) (h : Cl (V double x) (V double y) D) (E : Int) (X : Ex double E) (hE : D ≤ p2 E) : ∃ G, GapW x y G ∧ Nm double G ∧ 0 ≤ V double G ∧ V double G ≤ D + ulp double E := by
  unfold Cl at h
  obtain ⟨s, e1, n1, c1, s1⟩ := sub_near good_double nx ny E (by unfold Cl; constructor <;> grind) X
  obtain ⟨t, e2, n2, c2, s2⟩ := sub_near good_double ny nx E (by unfold Cl; constructor <;> grind) X
  obtain ⟨n3, h3⟩ := mx_V n1 n2
  unfold Cl at c1 c2
  refine ⟨mx s t, ⟨s, t, e1, e2, n1, n2, rfl⟩, n3, ?_, by grind⟩
  rcases Rat.le_total (a := V double x) (b := V double y) with h0 | h0
  · have := s2 (by grind); grind
  · have := s1 (by grind); grind
end Go.Proofs.Ytdonmboidpppmaa
