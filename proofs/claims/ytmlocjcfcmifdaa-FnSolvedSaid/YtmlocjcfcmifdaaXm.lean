/- Plain: what the sums of a row's equations, and of a ring's, come to in double precision: they are told, nearly. No program. -/
import Derived.Test.YtmlocjcfcmifdaaXk
import Derived.Test.YtmlocjcfcmifdaaXj
namespace Go.Proofs.Ytmlocjcfcmifdaa
open Ieee
set_option linter.unusedVariables false

def W64 (x D : Nat) : Prop := floatToFloatBits .f32 x .f64 = some D
/-- A word that is not greater than a hundredth. -/
def Sm100 (G : Nat) : Prop := (double.order G 4576918229304087675 == some .gt) = false
theorem c100 : Nm double 4576918229304087675 ∧ 99 / 10000 ≤ V double 4576918229304087675 := ⟨⟨_, _, _, rfl⟩, by decide +kernel⟩
theorem p2_8d : p2 8 = 256 ∧ ulp double 8 = 1 / 35184372088832 := by decide +kernel
theorem p2_0d : p2 0 = 1 ∧ ulp double 0 = 1 / 9007199254740992 := by decide +kernel
theorem xwiden {x : Nat} {B : Rat} (h : Wn x B) : ∃ D, W64 x D ∧ Nm double D ∧ V double D = V single x := widen_V h.nm
theorem dmul {x y : Nat} {B C : Rat} (nx : Nm double x) (ny : Nm double y) (bx : Cl (V double x) 0 B) (bY : Cl (V double y) 0 C) (h : B * C ≤ 256) : ∃ r, floatBits .mul .f64 x y = some r ∧ Nm double r ∧ Cl (V double r) (V double x * V double y) (1 / 10000000) ∧ Cl (V double r) 0 (B * C + 1 / 10000000) := by
  obtain ⟨q8, u8⟩ := p2_8d
  have b := bx.prod bY
  obtain ⟨r, h1, h2, h3, _⟩ := mul_near good_double nx ny 8 (by rw [q8]; exact b.mono h) (ex_double (by decide) (by decide))
  rw [u8] at h3
  exact ⟨r, h1, h2, h3.mono (by grind), (h3.trans b).mono (by grind)⟩
theorem dadd {x y : Nat} {B C : Rat} (nx : Nm double x) (ny : Nm double y) (bx : Cl (V double x) 0 B) (bY : Cl (V double y) 0 C) (h : B + C ≤ 256) : ∃ r, floatBits .add .f64 x y = some r ∧ Nm double r ∧ Cl (V double r) (V double x + V double y) (1 / 10000000) ∧ Cl (V double r) 0 (B + C + 1 / 10000000) := by
  obtain ⟨q8, u8⟩ := p2_8d
  have b := bx.add bY
  rw [show (0 : Rat) + 0 = 0 from by grind] at b
  obtain ⟨r, h1, h2, h3, _⟩ := add_near good_double nx ny 8 (by rw [q8]; exact b.mono h) (ex_double (by decide) (by decide))
  rw [u8] at h3
  exact ⟨r, h1, h2, h3.mono (by grind), (h3.trans b).mono (by grind)⟩
theorem dsub {x y : Nat} {B C : Rat} (nx : Nm double x) (ny : Nm double y) (bx : Cl (V double x) 0 B) (bY : Cl (V double y) 0 C) (h : B + C ≤ 256) : ∃ r, floatBits .sub .f64 x y = some r ∧ Nm double r ∧ Cl (V double r) (V double x - V double y) (1 / 10000000) ∧ Cl (V double r) 0 (B + C + 1 / 10000000) := by
  obtain ⟨q8, u8⟩ := p2_8d
  have b := bx.sub bY
  rw [show (0 : Rat) - 0 = 0 from by grind] at b
  obtain ⟨r, h1, h2, h3, _⟩ := sub_near good_double nx ny 8 (by rw [q8]; exact b.mono h) (ex_double (by decide) (by decide))
  rw [u8] at h3
  exact ⟨r, h1, h2, h3.mono (by grind), (h3.trans b).mono (by grind)⟩
theorem gap_any {x y : Nat} {D : Rat} (nx : Nm double x) (ny : Nm double y) (h : Cl (V double x) (V double y) D) (hD : D ≤ 1) : ∃ G, GapD x y G ∧ Nm double G ∧ V double G ≤ D + 1 / 10000000 := by
  obtain ⟨q0, u0⟩ := p2_0d
  have D0 := h.nonneg
  have o := order_V nx ny
  by_cases hlt : V double x < V double y
  · rw [if_pos hlt] at o
    obtain ⟨r, h1, h2, h3, _⟩ := sub_near good_double ny nx 0 (by rw [q0]; unfold Cl at *; constructor <;> grind) (ex_double (by decide) (by decide))
    rw [u0] at h3
    exact ⟨r, .inl ⟨o, h1⟩, h2, by unfold Cl at *; grind⟩
  · rw [if_neg hlt] at o
    have ne : ¬ (double.order x y = some .lt) := by
      rw [o]
      by_cases e : V double x = V double y
      · rw [if_pos e]; intro h; cases h
      · rw [if_neg e]; intro h; cases h
    obtain ⟨r, h1, h2, h3, _⟩ := sub_near good_double nx ny 0 (by rw [q0]; unfold Cl at *; constructor <;> grind) (ex_double (by decide) (by decide))
    rw [u0] at h3
    exact ⟨r, .inr ⟨ne, h1⟩, h2, by unfold Cl at *; grind⟩
theorem small_gap {x y : Nat} (nx : Nm double x) (ny : Nm double y) (h : Cl (V double x) (V double y) (9 / 1000)) : ∃ G, GapD x y G ∧ Sm100 G := by
  obtain ⟨nc, vc⟩ := c100
  obtain ⟨G, h1, h2, h3⟩ := gap_any nx ny h (by grind)
  refine ⟨G, h1, ?_⟩
  unfold Sm100
  rw [V_gt h2 nc, decide_eq_false]
  grind

/-- What is told of one equation of a row, and of one of a ring. -/
structure KTold (n k : Nat) (l m r x y : Nat → Nat) (M X s0 L P1 q1 s1 P2 q2 s2 Y t Yp t1 Yn t2 R G1 G2 : Nat) : Prop where
  cM : W64 (m k) M
  cX : W64 (x k) X
  f0 : floatBits .mul .f64 M X = some s0
  cL : W64 (l k) L
  c1 : 0 < k → W64 (x (k - 1)) P1
  g1 : 0 < k → floatBits .mul .f64 L P1 = some q1
  a1 : 0 < k → floatBits .add .f64 s0 q1 = some s1
  e1 : ¬ 0 < k → s1 = s0
  c2 : k + 1 < n → W64 (x (k + 1)) P2
  g2 : k + 1 < n → floatBits .mul .f64 L P2 = some q2
  a2 : k + 1 < n → floatBits .add .f64 s1 q2 = some s2
  e2 : ¬ k + 1 < n → s2 = s1
  cY : W64 (y k) Y
  ft : floatBits .mul .f64 4616189618054758400 Y = some t
  cp : W64 (y (pv n k)) Yp
  fp : floatBits .sub .f64 t Yp = some t1
  cn : W64 (y (nx n k)) Yn
  fn : floatBits .sub .f64 t1 Yn = some t2
  cR : W64 (r k) R
  h1 : GapD s2 R G1
  o1 : Sm100 G1
  h2 : GapD t2 R G2
  o2 : Sm100 G2

theorem d4 : Nm double 4616189618054758400 ∧ V double 4616189618054758400 = 4 := ⟨⟨_, _, _, rfl⟩, by decide +kernel⟩

theorem k_any {n k : Nat} (hk : k < n) {l m r x y : Nat → Nat} (wl : ∀ k, k < n → Wn (l k) 1) (wm : ∀ k, k < n → Wn (m k) 5) (wr : ∀ k, k < n → Wn (r k) 8) (D : RowD n l m l r x (43 / 5) (1 / 1000)) (wy : ∀ k, k < n → Wn (y k) 5)
    (ry : Cl (4 * V single (y k) - V single (y (pv n k)) - V single (y (nx n k))) (V single (r k)) (1 / 250)) :
    ∃ M X s0 L P1 q1 s1 P2 q2 s2 Y t Yp t1 Yn t2 R G1 G2, KTold n k l m r x y M X s0 L P1 q1 s1 P2 q2 s2 Y t Yp t1 Yn t2 R G1 G2 := by
  obtain ⟨n4, v4⟩ := d4
  have res := D.res k hk
  obtain ⟨M, cM, nM, vM⟩ := xwiden (wm k hk)
  obtain ⟨X, cX, nX, vX⟩ := xwiden (D.hx k hk)
  obtain ⟨L, cL, nL, vL⟩ := xwiden (wl k hk)
  obtain ⟨R, cR, nR, vR⟩ := xwiden (wr k hk)
  have bM := (wm k hk).bd
  have bX := (D.hx k hk).bd
  have bL := (wl k hk).bd
  rw [← vM] at bM
  rw [← vX] at bX
  rw [← vL] at bL
  obtain ⟨s0, f0, ns0, cs0, bs0⟩ := dmul nM nX bM bX (by grind)
  have A1 : ∃ P1 q1 s1, (0 < k → W64 (x (k - 1)) P1) ∧ (0 < k → floatBits .mul .f64 L P1 = some q1) ∧ (0 < k → floatBits .add .f64 s0 q1 = some s1) ∧ (¬ 0 < k → s1 = s0) ∧ Nm double s1 ∧ Cl (V double s1) (V double s0 + (if 0 < k then V single (l k) * V single (x (k - 1)) else 0)) (1 / 4000000) ∧ Cl (V double s1) 0 53 := by
    by_cases h : 0 < k
    · obtain ⟨P1, c1, nP, vP⟩ := xwiden (D.hx (k - 1) (by omega))
      have bP := (D.hx (k - 1) (by omega)).bd
      rw [← vP] at bP
      obtain ⟨q1, g1, nq, cq, bq⟩ := dmul nL nP bL bP (by grind)
      obtain ⟨s1, a1, n1, d1, b1⟩ := dadd ns0 nq bs0 bq (by grind)
      refine ⟨P1, q1, s1, fun _ => c1, fun _ => g1, fun _ => a1, fun h' => absurd h h', n1, ?_, b1.mono (by grind)⟩
      rw [if_pos h]
      rw [vL, vP] at cq
      unfold Cl at *
      constructor <;> grind
    · exact ⟨0, 0, s0, fun h' => absurd h' h, fun h' => absurd h' h, fun h' => absurd h' h, fun _ => rfl, ns0, by rw [if_neg h]; unfold Cl; constructor <;> grind, bs0.mono (by grind)⟩
  obtain ⟨P1, q1, s1, c1, g1, a1, e1, n1, d1, b1⟩ := A1
  have A2 : ∃ P2 q2 s2, (k + 1 < n → W64 (x (k + 1)) P2) ∧ (k + 1 < n → floatBits .mul .f64 L P2 = some q2) ∧ (k + 1 < n → floatBits .add .f64 s1 q2 = some s2) ∧ (¬ k + 1 < n → s2 = s1) ∧ Nm double s2 ∧ Cl (V double s2) (V double s1 + (if k + 1 < n then V single (l k) * V single (x (k + 1)) else 0)) (1 / 4000000) := by
    by_cases h : k + 1 < n
    · obtain ⟨P2, c2, nP, vP⟩ := xwiden (D.hx (k + 1) h)
      have bP := (D.hx (k + 1) h).bd
      rw [← vP] at bP
      obtain ⟨q2, g2, nq, cq, bq⟩ := dmul nL nP bL bP (by grind)
      obtain ⟨s2, a2, n2, d2, b2⟩ := dadd n1 nq b1 bq (by grind)
      refine ⟨P2, q2, s2, fun _ => c2, fun _ => g2, fun _ => a2, fun h' => absurd h h', n2, ?_⟩
      rw [if_pos h]
      rw [vL, vP] at cq
      unfold Cl at *
      constructor <;> grind
    · exact ⟨0, 0, s1, fun h' => absurd h' h, fun h' => absurd h' h, fun h' => absurd h' h, fun _ => rfl, n1, by rw [if_neg h]; unfold Cl; constructor <;> grind⟩
  obtain ⟨P2, q2, s2, c2, g2, a2, e2, n2, d2⟩ := A2
  -- the ring
  obtain ⟨Y, cY, nY, vY⟩ := xwiden (wy k hk)
  obtain ⟨Yp, cp, nYp, vYp⟩ := xwiden (wy (pv n k) (pv_lt (by omega)))
  obtain ⟨Yn, cn, nYn, vYn⟩ := xwiden (wy (nx n k) (nx_lt (by omega)))
  have bY := (wy k hk).bd
  have bYp := (wy (pv n k) (pv_lt (by omega))).bd
  have bYn := (wy (nx n k) (nx_lt (by omega))).bd
  rw [← vY] at bY
  rw [← vYp] at bYp
  rw [← vYn] at bYn
  obtain ⟨t, ft, nt, ct, bt⟩ := dmul (B := 4) n4 nY (by rw [v4]; unfold Cl; constructor <;> grind) bY (by grind)
  obtain ⟨t1, fp, nt1, ct1, bt1⟩ := dsub nt nYp bt bYp (by grind)
  obtain ⟨t2, fn, nt2, ct2, bt2⟩ := dsub nt1 nYn bt1 bYn (by grind)
  obtain ⟨G1, h1, o1⟩ := small_gap n2 nR (by
    rw [vM, vX] at cs0
    rw [vR]
    unfold Cl at *
    constructor <;> grind)
  obtain ⟨G2, h2, o2⟩ := small_gap nt2 nR (by
    rw [v4] at ct
    rw [vR]
    rw [← vY, ← vYp, ← vYn] at ry
    unfold Cl at *
    constructor <;> grind)
  exact ⟨M, X, s0, L, P1, q1, s1, P2, q2, s2, Y, t, Yp, t1, Yn, t2, R, G1, G2, cM, cX, f0, cL, c1, g1, a1, e1, c2, g2, a2, e2, cY, ft, cp, fp, cn, fn, cR, h1, o1, h2, o2⟩

theorem wn_iw (n : Int) (M : Nat) (h : n.natAbs ≤ M) (hM : M ≤ 1000000) : Wn (iw n) (M : Rat) ∧ V single (iw n) = (n : Rat) := by
  obtain ⟨h1, h2⟩ := V_wd (f := single) fit_single 0 n (by decide) (by show n.natAbs < 16777216; omega)
  have e0 : p2 (-((0 : Nat) : Int)) = 1 := by decide +kernel
  rw [e0] at h2
  have e : V single (iw n) = (n : Rat) := by
    show V single (wd single 0 n) = _
    rw [h2]; grind
  refine ⟨⟨h1, ?_⟩, e⟩
  rw [e]
  have a1 : (n : Rat) ≤ ((M : Int) : Rat) := Rat.intCast_le_intCast.2 (by omega)
  have a2 : ((-(M : Int) : Int) : Rat) ≤ (n : Rat) := Rat.intCast_le_intCast.2 (by omega)
  have e1 : ((M : Int) : Rat) = (M : Rat) := rfl
  rw [Rat.intCast_neg] at a2
  rw [e1] at a1 a2
  unfold Cl
  constructor <;> grind

/-- The equations of a row that are drawn. -/
theorem drawn_row {n : Nat} (hn : 3 ≤ n) (l m r : Nat → Int) (hl : SmI l n 1) (hm : ∀ k, k < n → 3 ≤ m k ∧ m k ≤ 5) (hr : SmI r n 8) :
    RowIn n (fun k => iw (l k)) (fun k => iw (m k)) (fun k => iw (l k)) (fun k => iw (r k)) 3 (2 / 5) 8 (51 / 10) (43 / 5) 4 := by
  have q4 : p2 4 = 16 := by decide +kernel
  have u4 : ulp single 4 = 1 / 1048576 := by decide +kernel
  have wl : ∀ k, k < n → Wn (iw (l k)) 1 := fun k hk => (wn_iw (l k) 1 (hl k hk) (by omega)).1
  have wr : ∀ k, k < n → Wn (iw (r k)) 8 := fun k hk => (wn_iw (r k) 8 (hr k hk) (by omega)).1
  have wm : ∀ k, k < n → Nm single (iw (m k)) ∧ 3 ≤ V single (iw (m k)) ∧ V single (iw (m k)) ≤ 8 := fun k hk => by
    obtain ⟨a, b⟩ := hm k hk
    obtain ⟨w, v⟩ := wn_iw (m k) 5 (by omega) (by omega)
    have a1 := Rat.intCast_le_intCast.2 a
    have b1 := Rat.intCast_le_intCast.2 b
    rw [← v] at a1 b1
    have e3 : ((3 : Int) : Rat) = 3 := rfl
    have e5 : ((5 : Int) : Rat) = 5 := rfl
    rw [e3] at a1
    rw [e5] at b1
    exact ⟨w.nm, a1, by grind⟩
  have m0 := (wm 0 (by omega)).2.1
  have r0 := (wr 0 (by omega)).bd
  exact {
    n0 := by omega
    hl := wl
    hu := wl
    hm := wm
    hr := fun k hk _ => wr k hk
    nr0 := (wr 0 (by omega)).nm
    h0 := by rw [u4]; exact r0.mono (by grind)
    g0 := by grind
    g1 := by grind
    mu := by grind
    R0 := by grind
    gm := by grind
    dd := by rw [u4]; grind
    xx := by rw [u4]; grind
    D0 := by rw [u4]; grind
    X1 := by rw [q4]; grind
    D1 := by rw [q4]; grind
    u1 := by rw [u4]; grind
    e0 := by decide
    e1 := by decide }

/-- All that the first half of the law is told. -/
theorem rows_any {n : Nat} (hn : 3 ≤ n) (l m r : Nat → Int) (hl : SmI l n 1) (hm : ∀ k, k < n → 3 ≤ m k ∧ m k ≤ 5) (hr : SmI r n 8) :
    ∃ t mm s rr c d w x, RowW n (fun k => iw (l k)) (fun k => iw (m k)) (fun k => iw (l k)) (fun k => iw (r k)) t mm s rr c d w x ∧
      ∃ p q t1 t2 t3 t4 t5 f z y, RingW n (fun k => iw (r k)) p q t1 t2 t3 t4 t5 f z y ∧
      ∀ k, k < n → ∃ M X s0 L P1 q1 s1 P2 q2 s2 Y t Yp t1 Yn t2 R G1 G2, KTold n k (fun k => iw (l k)) (fun k => iw (m k)) (fun k => iw (r k)) x y M X s0 L P1 q1 s1 P2 q2 s2 Y t Yp t1 Yn t2 R G1 G2 := by
  have u4 : ulp single 4 = 1 / 1048576 := by decide +kernel
  have H := drawn_row hn l m r hl hm hr
  obtain ⟨t, mm, s, rr, c, d, w, x, R1, R2, _⟩ := row_any H
  have R2' : RowD n (fun k => iw (l k)) (fun k => iw (m k)) (fun k => iw (l k)) (fun k => iw (r k)) x (43 / 5) (1 / 1000) := ⟨R2.hx, fun k hk => (R2.res k hk).mono (by rw [u4]; grind)⟩
  have wr : ∀ k, k < n → Wn (iw (r k)) 8 := fun k hk => (wn_iw (r k) 8 (hr k hk) (by omega)).1
  have wm : ∀ k, k < n → Wn (iw (m k)) 5 := fun k hk => (wn_iw (m k) 5 (by have := hm k hk; omega) (by omega)).1
  obtain ⟨p, q, t1, t2, t3, t4, t5, f, z, y, Q1, Q2, Q3⟩ := ring_any hn (r := fun k => iw (r k)) (fun k hk => (wr k hk).mono (by grind))
  have my := ring_max (n := n) (by omega) (x := fun k => V single (y k)) (r := fun k => V single (iw (r k))) (R := 8) (ε := 1 / 250) (fun k hk => (wr k hk).bd) Q3
  exact ⟨t, mm, s, rr, c, d, w, x, R1, p, q, t1, t2, t3, t4, t5, f, z, y, Q1, fun k hk => k_any hk H.hl wm wr R2' (fun k hk => ⟨Q2 k hk, (my k hk).mono (by grind)⟩) (Q3 k hk)⟩

/-- One corner of the last row. -/
structure LTold (a b A B G : Nat) : Prop where
  ca : W64 a A
  cb : W64 b B
  h : GapD A B G
  o : Sm100 G

/-- All that the second half of the law is told. -/
theorem swept_any {W H : Nat} (hW : 4 ≤ W ∧ W ≤ 7) (hH : 4 ≤ H ∧ H ≤ 6) (f v : Nat → Int) (hf : SmI f (W * H) 5) (hv : SmI v (W * H) 5) :
    ∃ S m c O T R X A, MeanW (W * H) (fun i => iw (f i)) S m c ∧ SweepW W H (fun i => iw (v i)) c O T R X ∧ LapW W H (O H) A ∧ ∀ i, W * (H - 1) ≤ i → i < W * H → ∃ C D G, LTold (A i 4) (c i) C D G := by
  have hS : Sd W H := ⟨⟨hW.1, by omega⟩, hH.1, by omega⟩
  have SL : 16 ≤ W * H ∧ W * H ≤ 42 := ⟨Nat.mul_le_mul (m₁ := 4) (n₁ := 4) hW.1 hH.1, Nat.mul_le_mul (n₂ := 7) (m₂ := 6) hW.2 hH.2⟩
  have q9 : p2 9 = 512 := by decide +kernel
  have q4 : p2 4 = 16 := by decide +kernel
  have u9 : ulp single 9 = 1 / 32768 := by decide +kernel
  have u6 : ulp single (4 + 2) = 1 / 262144 := by decide +kernel
  have wf : ∀ i, i < W * H → Wn (iw (f i)) 5 := fun i hi => (wn_iw (f i) 5 (hf i hi) (by omega)).1
  have wv : ∀ i, i < W * H → Wn (iw (v i)) 5 := fun i hi => (wn_iw (v i) 5 (hv i hi) (by omega)).1
  have nr : ((W * H : Nat) : Rat) ≤ 42 := by
    have h : ((W * H : Nat) : Rat) ≤ ((42 : Nat) : Rat) := Rat.natCast_le_natCast.2 SL.2
    exact h
  obtain ⟨m, c, M, _, _, _, wc⟩ := mean_any (n := W * H) (a := fun i => iw (f i)) (B := 5) (E := 9) (F := 4) (by omega) (by omega) wf (by grind) (by rw [q9]; grind) (by rw [u9]; grind) (by decide) (by decide) (by rw [q4]; grind) (by rw [u6]; grind) (by decide) (by decide)
  obtain ⟨SW, wo, lo⟩ := sw_any hW.1 hH.1 (c := c) (fun i hi => ((wc i hi).1).mono (by grind)) wv
  have q8 : p2 8 = 256 := by decide +kernel
  have u8 : ulp single 8 = 1 / 65536 := by decide +kernel
  obtain ⟨LA, LB⟩ := lap_any hS (E := 8) wo (by rw [q8]; grind) (by rw [u8]; grind) (by decide) (by decide)
  refine ⟨_, m, c, _, _, _, _, _, M, SW, LA, fun i h1 h2 => ?_⟩
  obtain ⟨x, hx, rfl⟩ : ∃ x, x < W ∧ i = x + W * (H - 1) := ⟨i - W * (H - 1), by
    have : W * H = W * (H - 1) + W := by rw [← Nat.mul_succ]; congr 1; omega
    omega, by omega⟩
  obtain ⟨na, ka⟩ := LB x (H - 1) hx (by omega)
  have l := lo x hx
  rw [ix_left W H x (H - 1) hx (by omega), ix_right W H x (H - 1) hx (by omega), ix_up W H x (H - 1) hx (by omega), ix_down W H x (H - 1) hx (by omega), if_neg (by omega), if_pos (by omega), show H - 1 - 1 = H - 2 by omega, u8] at ka
  have wci := (wc _ h2).1
  obtain ⟨C, cC, nC, vC⟩ := widen_V na
  obtain ⟨D, cD, nD, vD⟩ := widen_V wci.nm
  obtain ⟨G, g1, g2⟩ := small_gap nC nD (by
    rw [vC, vD]
    unfold Cl at *
    constructor <;> grind)
  exact ⟨C, D, G, cC, cD, g1, g2⟩
end Go.Proofs.Ytmlocjcfcmifdaa
