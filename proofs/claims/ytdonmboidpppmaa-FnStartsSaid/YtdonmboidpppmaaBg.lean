/- Plain: lengths that are near each other, kicks, pushes; what is apart. No program. -/
import Derived.Test.YtdonmboidpppmaaBf
import Derived.Test.YtdonmboidpppmaaBe
namespace Go.Proofs.Ytdonmboidpppmaa
open Ieee Go
set_option linter.unusedVariables false

/-! ### Lengths -/
theorem up_sq {a b c d w ε : Rat} (hw : 0 ≤ w) (h : a * a + b * b ≤ w * w) (h1 : Cl a c ε) (h2 : Cl b d ε) : c * c + d * d ≤ a * a + b * b + 4 * w * ε + 2 * ε * ε := by
  have e0 := h1.nonneg
  have a0 := bself_nonneg a
  have b0 := bself_nonneg b
  have n1 : ∀ s : Rat, 0 ≤ s * s := bself_nonneg
  have ha1 : a ≤ w := by
    rcases Rat.le_total (a := a) (b := 0) with h0 | h0
    · grind
    · exact sq_le h0 hw (by grind)
  have ha2 : -a ≤ w := by
    rcases Rat.le_total (a := -a) (b := 0) with h0 | h0
    · grind
    · exact sq_le h0 hw (by grind)
  have hb1 : b ≤ w := by
    rcases Rat.le_total (a := b) (b := 0) with h0 | h0
    · grind
    · exact sq_le h0 hw (by grind)
  have hb2 : -b ≤ w := by
    rcases Rat.le_total (a := -b) (b := 0) with h0 | h0
    · grind
    · exact sq_le h0 hw (by grind)
  have key : ∀ s t : Rat, s ≤ w → -s ≤ w → Cl s t ε → t * t ≤ s * s + 2 * w * ε + ε * ε := fun s t hs1 hs2 hst => by
    unfold Cl at hst
    have p1 : 0 ≤ (w - s) * (ε + (s - t)) := Rat.mul_nonneg (by grind) (by grind)
    have p2' : 0 ≤ (w + s) * (ε - (s - t)) := Rat.mul_nonneg (by grind) (by grind)
    have p3 : 0 ≤ (ε - (s - t)) * (ε + (s - t)) := Rat.mul_nonneg (by grind) (by grind)
    have p4 : 0 ≤ (w - s) * (ε - (s - t)) := Rat.mul_nonneg (by grind) (by grind)
    have p5 : 0 ≤ (w + s) * (ε + (s - t)) := Rat.mul_nonneg (by grind) (by grind)
    grind
  have k1 := key a c ha1 ha2 h1
  have k2 := key b d hb1 hb2 h2
  grind
theorem Len.near {L : Nat} {a b c d δ ε : Rat} (h : Len L (a * a + b * b) δ) (h1 : Cl a c ε) (h2 : Cl b d ε) : Len L (c * c + d * d) (δ + 2 * ε) := by
  have e0 := h1.nonneg
  refine ⟨h.nm, h.pos, fun z z0 hz => ?_, fun z z0 hz => ?_⟩
  · rcases Rat.le_total (a := z) (b := 2 * ε) with h0 | h0
    · have := h.pos
      have := h.low 0 (by grind) (by have := bself_nonneg a; have := bself_nonneg b; grind)
      grind
    · by_cases hw : (z - 2 * ε) * (z - 2 * ε) ≤ a * a + b * b
      · have := h.low (z - 2 * ε) (by grind) hw
        grind
      · have hu := up_sq (w := z - 2 * ε) (by grind) (by grind) h1 h2
        have e2 := bself_nonneg ε
        grind
  · have hu := up_sq (w := z) z0 hz h1.symm h2.symm
    have e2 := bself_nonneg ε
    have z2 := Rat.mul_nonneg z0 e0
    have := h.high (z + 2 * ε) (by grind) (by grind)
    grind
theorem Len.sq {L : Nat} {v δ : Rat} (h : Len L v δ) (hs : 0 ≤ V single L + δ) : v ≤ (V single L + δ) * (V single L + δ) := by
  generalize hz : V single L + δ = s at *
  by_cases hc : v ≤ s * s
  · exact hc
  · exfalso
    have g0 : 0 < v - s * s := by grind
    have hn : (2 * s + 1 + (v - s * s)) ≠ 0 := by grind
    obtain ⟨t, ht⟩ : ∃ t : Rat, t * (2 * s + 1 + (v - s * s)) = v - s * s := ⟨(v - s * s) * (2 * s + 1 + (v - s * s))⁻¹, by rw [Rat.mul_assoc, Rat.inv_mul_cancel _ hn, Rat.mul_one]⟩
    have t0 : 0 < t := by
      rcases Rat.le_total (a := t) (b := 0) with h0 | h0
      · have := Rat.mul_nonneg (a := -t) (b := 2 * s + 1 + (v - s * s)) (by grind) (by grind)
        grind
      · by_cases h1 : t = 0
        · rw [h1] at ht; grind
        · grind
    have t1 : t ≤ 1 := by
      rcases Rat.le_total (a := t) (b := 1) with h0 | h0
      · exact h0
      · have := Rat.mul_nonneg (a := t - 1) (b := 2 * s + 1 + (v - s * s)) (by grind) (by grind)
        grind
    have q1 := Rat.mul_nonneg (a := t) (b := v - s * s) (by grind) (by grind)
    have q2 := Rat.mul_nonneg (a := t) (b := 1 - t) (by grind) (by grind)
    have := h.low (s + t) (by grind) (by grind)
    grind
theorem Len.gap {L M : Nat} {v δ ε : Rat} (h : Len L v δ) (g : Len M v ε) (hδ : 0 ≤ δ) (hε : 0 ≤ ε) : Cl (V single L) (V single M) (δ + ε) := by
  have h0 := h.pos
  have g0 := g.pos
  have a := h.high (V single M + ε) (by grind) (g.sq (by grind))
  have b := g.high (V single L + δ) (by grind) (h.sq (by grind))
  unfold Cl
  constructor <;> grind

theorem long2 {a b : Nat} (na : Nm single a) (nb : Nm single b) (ba : Cl (V single a) 0 2) (bb : Cl (V single b) 0 2) : ∃ L, LongW a b L ∧ Len L (V single a * V single a + V single b * V single b) (1 / 1000000) := by
  have u4 : p2 4 = 16 := by decide +kernel
  have u2 : p2 2 = 4 := by decide +kernel
  have u3 : p2 3 = 8 := by decide +kernel
  have l4 : ulp double 4 = 1 / 562949953421312 := by decide +kernel
  have l4' : ulp double (2 + 2) = 1 / 562949953421312 := by decide +kernel
  have s3 : ulp single 3 = 1 / 2097152 := by decide +kernel
  exact long_near na nb ba bb 4 (ex_double (by decide) (by decide)) (by rw [u4]; grind) (by rw [l4]; grind) (η := 1 / 70368744177664) (by rw [l4]; grind) 2 (ex_double (by decide) (by decide)) (by rw [u2]; grind) (1 / 8388608) (by grind) (by grind) 3 (ex_single (by decide) (by decide)) (by rw [u2, u3, l4']; grind) (by rw [l4', s3]; grind)
theorem long256 {a b : Nat} (na : Nm single a) (nb : Nm single b) (ba : Cl (V single a) 0 256) (bb : Cl (V single b) 0 256) : ∃ L, LongW a b L ∧ Len L (V single a * V single a + V single b * V single b) (1 / 8000) := by
  have u18 : p2 18 = 262144 := by decide +kernel
  have u9 : p2 9 = 512 := by decide +kernel
  have u10 : p2 10 = 1024 := by decide +kernel
  have l18 : ulp double 18 = 1 / 34359738368 := by decide +kernel
  have l11 : ulp double (9 + 2) = 1 / 4398046511104 := by decide +kernel
  have s10 : ulp single 10 = 1 / 16384 := by decide +kernel
  exact long_near na nb ba bb 18 (ex_double (by decide) (by decide)) (by rw [u18]; grind) (by rw [l18]; grind) (η := 1 / 4294967296) (by rw [l18]; grind) 9 (ex_double (by decide) (by decide)) (by rw [u9]; grind) (1 / 65536) (by grind) (by grind) 10 (ex_single (by decide) (by decide)) (by rw [u9, u10, l11]; grind) (by rw [l11, s10]; grind)
/-- Numbers that differ by at most e in each part are no further apart than 2e, nearly. -/
theorem apart_near {a b c d : Nat} (na : Nm single a) (nb : Nm single b) (nc : Nm single c) (nd : Nm single d) (e : Rat) (h1 : Cl (V single a) (V single c) e) (h2 : Cl (V single b) (V single d) e) (he : e ≤ 1) : ∃ D, ApartW a b c d D ∧ Nm double D ∧ 0 ≤ V double D ∧ V double D ≤ 2 * e + 1 / 500000 := by
  have u0 : p2 0 = 1 := by decide +kernel
  have s0 : ulp single 0 = 1 / 16777216 := by decide +kernel
  have e0 := h1.nonneg
  obtain ⟨r, q1, n1, c1, _⟩ := sub_near good_single na nc 0 (by rw [u0]; unfold Cl at *; constructor <;> grind) (ex_single (by decide) (by decide))
  obtain ⟨s, q2, n2, c2, _⟩ := sub_near good_single nb nd 0 (by rw [u0]; unfold Cl at *; constructor <;> grind) (ex_single (by decide) (by decide))
  rw [s0] at c1 c2
  have b1 : Cl (V single r) 0 (e + 1 / 16777216) := by unfold Cl at *; constructor <;> grind
  have b2 : Cl (V single s) 0 (e + 1 / 16777216) := by unfold Cl at *; constructor <;> grind
  obtain ⟨L, hL, len⟩ := long2 n1 n2 (b1.mono (by grind)) (b2.mono (by grind))
  obtain ⟨D, hD, nD, vD⟩ := widen_V len.nm
  refine ⟨D, ⟨r, s, L, q1, q2, hL, hD⟩, nD, by rw [vD]; exact len.pos, ?_⟩
  rw [vD]
  have p1 := b1.prod b1
  have p2' := b2.prod b2
  have := len.high (2 * (e + 1 / 16777216)) (by grind) (by unfold Cl at p1 p2'; have := bself_nonneg (e + 1 / 16777216); grind)
  grind

/-! ### Kicks and pushes -/
structure KickN (q m fx fy tick P h c kx ky : Nat) (ε : Rat) : Prop where
  w : KickW q m fx fy tick kx ky
  nkx : Nm single kx
  nky : Nm single ky
  ckx : Cl (V single kx) (V single fx * V single c) ε
  cky : Cl (V single ky) (V single fy * V single c) ε
  cc : Cl (V single c) (V single P * V single h) (1 / 2000000)
  bc : Cl (V single c) 0 6
theorem kick_near {q m fx fy tick P h : Nat} (H : PH q m tick P h) (nfx : Nm single fx) (nfy : Nm single fy) (Φ : Rat) (bfx : Cl (V single fx) 0 Φ) (bfy : Cl (V single fy) 0 Φ) (E : Int) (X : Ex single E) (hE : 6 * Φ ≤ p2 E) : ∃ c kx ky, KickN q m fx fy tick P h c kx ky (ulp single E) := by
  have u3 : p2 3 = 8 := by decide +kernel
  have l3 : ulp single 3 = 1 / 2097152 := by decide +kernel
  have hΦ := bfx.nonneg
  obtain ⟨c, e1, a1⟩ := (Ap.self H.nP H.bP).mul good_single (Ap.self H.nh H.bh) 3 (ex_single (by decide) (by decide)) (e' := 1 / 2000000) (B' := 45 / 8) (by rw [u3]; grind) (by rw [l3]; grind) (by grind)
  have bc := a1.abs.mono (e' := 6) (by grind)
  have m1 := bfx.prod bc
  have m2 := bfy.prod bc
  obtain ⟨kx, e2, n2, c2, _⟩ := mul_near good_single nfx a1.nm E (m1.mono (by grind)) X
  obtain ⟨ky, e3, n3, c3, _⟩ := mul_near good_single nfy a1.nm E (m2.mono (by grind)) X
  exact ⟨c, kx, ky, ⟨P, h, c, H.pull, H.half, e1, e2, e3⟩, n2, n3, c2, c3, a1.cl, bc⟩
theorem push_near {q m fx fy mag tick u v kx ky tr ti : Nat} (hk : KickW q m fx fy tick kx ky) (ht : TurnW q m mag tick tr ti) (nu : Nm single u) (nv : Nm single v) (nkx : Nm single kx) (nky : Nm single ky) (U K A : Rat) (bu : Cl (V single u) 0 U) (bv : Cl (V single v) 0 U) (bkx : Cl (V single kx) 0 K) (bky : Cl (V single ky) 0 K) {x y : Rat} (atr : Ap single tr x (1 / 4194304) 1) (ati : Ap single ti y (1 / 4194304) 1)
    (E1 : Int) (X1 : Ex single E1) (h1 : U + K ≤ p2 E1) (hA : U + K + ulp single E1 ≤ A) (E2 : Int) (X2 : Ex double E2) (h2 : 4 * A + 1 ≤ p2 E2) (hu : 3 * ulp double E2 ≤ 1 / 1000000) (F : Int) (Y : Ex single F) (hF : 4 * A + K + 1 ≤ p2 F) (hs : ulp single F ≤ 1 / 4) (err : Rat) (herr : 2 * (A / 4194304 + ulp single E1) + 3 * ulp double E2 + 2 * ulp single F ≤ err) :
    ∃ re im, PushW u v q m fx fy mag tick re im ∧ Nm single re ∧ Nm single im ∧ Cl (V single re) ((V single u + V single kx) * x - (V single v + V single ky) * y + V single kx) err ∧ Cl (V single im) ((V single u + V single kx) * y + (V single v + V single ky) * x + V single ky) err := by
  have l1 := ulp_pos single E1
  have l2 := ulp_pos double E2
  have l3 := ulp_pos single F
  have U0 := bu.nonneg
  have K0 := bkx.nonneg
  obtain ⟨s1, e1, a1⟩ := (Ap.self nu bu).add good_single (Ap.self nkx bkx) E1 X1 (e' := ulp single E1) (B' := U + K) (by grind) (by grind) (by grind)
  obtain ⟨s2, e2, a2⟩ := (Ap.self nv bv).add good_single (Ap.self nky bky) E1 X1 (e' := ulp single E1) (B' := U + K) (by grind) (by grind) (by grind)
  obtain ⟨a, b, hm, p, r⟩ := mul_cl (A := A) (C := 2) a1.nm a2.nm atr.nm ati.nm (a1.abs.mono hA) (a2.abs.mono hA) (atr.abs.mono (by grind)) (ati.abs.mono (by grind)) E2 X2 (by grind) (by grind) (η := 3 * ulp double E2) (by grind) F Y (by grind) (e' := 3 * ulp double E2 + ulp single F) (by grind)
  obtain ⟨re, e3, a3⟩ := p.add good_single (Ap.self nkx bkx) F Y (e' := 3 * ulp double E2 + 2 * ulp single F) (B' := 2 * (A * 2) + K) (by grind) (by grind) (by grind)
  obtain ⟨im, e4, a4⟩ := r.add good_single (Ap.self nky bky) F Y (e' := 3 * ulp double E2 + 2 * ulp single F) (B' := 2 * (A * 2) + K) (by grind) (by grind) (by grind)
  have m1 := a1.cl.mul atr.cl a1.bd atr.bd
  have m2 := a2.cl.mul ati.cl a2.bd ati.bd
  have m3 := a1.cl.mul ati.cl a1.bd ati.bd
  have m4 := a2.cl.mul atr.cl a2.bd atr.bd
  refine ⟨re, im, ⟨kx, ky, tr, ti, s1, s2, a, b, hk, ht, e1, e2, hm, e3, e4⟩, a3.nm, a4.nm, ?_, ?_⟩
  · have := a3.cl
    unfold Cl at *
    constructor <;> grind
  · have := a4.cl
    unfold Cl at *
    constructor <;> grind
end Go.Proofs.Ytdonmboidpppmaa
