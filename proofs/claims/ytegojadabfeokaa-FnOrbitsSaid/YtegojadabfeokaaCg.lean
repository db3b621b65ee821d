/- Plain: radius and centre of an orbit. No program. -/
import Derived.Test.YtegojadabfeokaaCb
import Derived.Test.YtegojadabfeokaaCd
namespace Go.Proofs.Ytegojadabfeokaa
open Ieee Go
set_option linter.unusedVariables false

/-! ### Nothing times a number -/
theorem V_zero_mag {b : Nat} {s : Bool} {m : Nat} {i : Int} (h : single.read b = .number s m i) (v : V single b = 0) : m = 0 := by
  rw [V_of h] at v
  unfold vn sr at v
  have p := p2_pos i
  have h1 : (m : Rat) * p2 i = 0 := by cases s <;> simp at v <;> grind
  rcases Rat.mul_eq_zero.1 h1 with h2 | h2
  · exact Rat.natCast_eq_zero_iff.1 h2
  · grind
theorem word0 (s : Bool) (i : Int) : single.nearest s 0 i = 0 ∨ single.nearest s 0 i = 2147483648 := by
  have e : single.nearest s 0 i = single.word s 0 := by unfold Format.nearest; rw [if_pos rfl]
  rw [e]
  cases s
  · left; rfl
  · right; decide
theorem mul_zeros {a b : Nat} (na : Nm single a) (nb : Nm single b) (h : V single a = 0 ∨ V single b = 0) : ∃ r, floatBits .mul .f32 a b = some r ∧ (r = 0 ∨ r = 2147483648) := by
  obtain ⟨s, m, i, ha⟩ := na
  obtain ⟨t, n, j, hb⟩ := nb
  have hz : m * n = 0 := by
    rcases h with h | h
    · rw [V_zero_mag ha h, Nat.zero_mul]
    · rw [V_zero_mag hb h, Nat.mul_zero]
  refine ⟨single.nearest (s ^^ t) 0 (i + j), ?_, word0 _ _⟩
  show single.mul a b = _
  unfold Format.mul
  rw [ha, hb]
  show some (single.nearest (s ^^ t) (m * n) (i + j)) = _
  rw [hz]
theorem quo_zeros {a b : Nat} (na : Nm single a) (nb : Nm single b) (h : V single a = 0) (hb0 : V single b ≠ 0) : ∃ r, floatBits .quo .f32 a b = some r ∧ (r = 0 ∨ r = 2147483648) := by
  obtain ⟨s, m, i, ha⟩ := na
  obtain ⟨t, n, j, hb⟩ := nb
  obtain rfl := V_zero_mag ha h
  have hn : n ≠ 0 := by
    rintro rfl
    rw [V_of hb, vn_zero] at hb0
    exact hb0 rfl
  have e : (Datum.number s 0 i).quotient (single.fractionBits + 2) (Datum.number t n j) = some (.number (s ^^ t) 0 (i - j - (single.fractionBits + 2 + n.log2 - (0 : Nat).log2 : Nat) - 1)) := by
    unfold Datum.quotient
    simp only [hn, if_false]
    congr 2
    simp
  refine ⟨single.nearest (s ^^ t) 0 (i - j - (single.fractionBits + 2 + n.log2 - (0 : Nat).log2 : Nat) - 1), ?_, word0 _ _⟩
  show single.div a b = _
  unfold Format.div
  rw [ha, hb, e]
  rfl
theorem zero_words {r : Nat} (h : r = 0 ∨ r = 2147483648) : Nm single r ∧ V single r = 0 ∧ FloatKind.f32.format.order r 0 = some .eq ∧ floatToFloatBits .f64 (widen r % 9223372036854775808) .f32 = some 0 ∧ (∃ A B p q, floatToFloatBits .f32 r .f64 = some A ∧ floatToFloatBits .f32 0 .f64 = some B ∧ floatBits .mul .f64 A A = some p ∧ floatBits .mul .f64 B B = some q ∧ floatBits .add .f64 p q = some 0) := by
  rcases h with rfl | rfl
  · exact ⟨nm_zero.1, nm_zero.2, by decide +kernel, by decide +kernel, 0, 0, 0, 0, by decide +kernel, by decide +kernel, by decide +kernel, by decide +kernel, by decide +kernel⟩
  · refine ⟨⟨true, 0, -149, by decide +kernel⟩, by decide +kernel, by decide +kernel, by decide +kernel, 9223372036854775808, 0, 0, 0, by decide +kernel, by decide +kernel, by decide +kernel, by decide +kernel, by decide +kernel⟩

/-! ### The absolute value -/
theorem abs64_V {D : Nat} (n : Nm double D) : Nm double (D % 9223372036854775808) ∧ 0 ≤ V double (D % 9223372036854775808) ∧ (V double (D % 9223372036854775808) = V double D ∨ V double (D % 9223372036854775808) = -V double D) := by
  obtain ⟨s, m, i, h⟩ := n
  have sw : double.signWeight = 9223372036854775808 := by decide
  have e : double.read (D % 9223372036854775808) = .number false m i := by
    rw [← sw]
    unfold Format.read at h ⊢
    have e1 : D % double.signWeight / double.signWeight = 0 := Nat.div_eq_of_lt (Nat.mod_lt _ (Nat.two_pow_pos _))
    simp only [Nat.mod_mod, e1] at h ⊢
    split at h
    · rename_i h1
      rw [if_pos h1]
      injection h with _ h2 h3
      rw [h2, h3]; rfl
    · rename_i h1
      rw [if_neg h1]
      split at h
      · rename_i h4
        rw [if_pos h4]
        injection h with _ h2 h3
        rw [h2, h3]; rfl
      · split at h <;> cases h
  refine ⟨⟨_, _, _, e⟩, ?_, ?_⟩
  · rw [V_of e]
    have := mag_nonneg m i
    unfold vn sr; simp; grind
  · rw [V_of e, V_of h]
    unfold vn sr
    cases s
    · left; rfl
    · right; simp; grind

theorem inv_bdc {μ F X Φ c C : Rat} (hc : 1 ≤ C * c) (c0 : 0 < c) (C0 : 0 ≤ C) (hμ : c ≤ μ ∨ μ ≤ -c) (hF : Cl F 0 Φ) (hX : X * μ = F) : Cl X 0 (C * Φ) := by
  have hΦ := hF.nonneg
  have hCΦ := Rat.mul_nonneg C0 hΦ
  have q0 := Rat.mul_nonneg (a := C * c - 1) (b := Φ) (by grind) hΦ
  rcases hμ with h | h
  · have p := Rat.mul_nonneg (a := μ - c) (b := C * Φ) (by grind) hCΦ
    exact quo_bd (N := μ) (by grind) hX (by unfold Cl at *; constructor <;> grind)
  · have p := Rat.mul_nonneg (a := -μ - c) (b := C * Φ) (by grind) hCΦ
    exact quo_bd (N := -μ) (v := -F) (by grind) (by grind) (by unfold Cl at *; constructor <;> grind)

/-- The pull is not small where there is a charge. -/
theorem pull_low {q m tick P h : Nat} (H : PH q m tick P h) (nq : Nm single q) (nm : Nm single m) (bq : Cl (V single q) 0 2) (m0 : 1 / 4 ≤ V single m) (m1 : V single m ≤ 2) (hq : 1 / 2 ≤ V single q ∨ V single q ≤ -(1 / 2)) : 1 / 5 ≤ V single P ∨ V single P ≤ -(1 / 5) := by
  have hm0 : V single m ≠ 0 := by grind
  have e1 : V single q * (V single m)⁻¹ * V single m = V single q := by rw [Rat.mul_assoc, Rat.inv_mul_cancel _ hm0, Rat.mul_one]
  have u3 : p2 3 = 8 := by decide +kernel
  have l5 : ulp single (3 + 2) = 1 / 524288 := by decide +kernel
  obtain ⟨P', h1, a1⟩ := (Ap.self nq bq).div good_single (Ap.self nm (B := 2) (by unfold Cl; constructor <;> grind)) (V single q * (V single m)⁻¹) 8 (1 / 4) 0 e1 (quo_bd (by grind) e1 (by unfold Cl at bq ⊢; constructor <;> grind)) m0 (by grind) (by grind) 3 (ex_single (by decide) (by decide)) (by decide) (by rw [u3]; grind) (e' := 1 / 524288) (by rw [l5]; grind)
  have e : some P' = some P := h1.symm.trans H.pull
  injection e with e
  subst e
  have c := a1.cl
  generalize V single q * (V single m)⁻¹ = ρ at *
  unfold Cl at c
  rcases hq with h | h
  · left
    have : 9 / 40 ≤ ρ := by
      rcases Rat.le_total (a := 9 / 40) (b := ρ) with h0 | h0
      · exact h0
      · have := Rat.mul_nonneg (a := 9 / 40 - ρ) (b := V single m) (by grind) (by grind)
        grind
    grind
  · right
    have : ρ ≤ -(9 / 40) := by
      rcases Rat.le_total (a := ρ) (b := -(9 / 40)) with h0 | h0
      · exact h0
      · have := Rat.mul_nonneg (a := ρ + 9 / 40) (b := V single m) (by grind) (by grind)
        grind
    grind

/-- Radius and centre of an orbit that is one. -/
structure SpinN (x y u v q m mag P W w32 L R e f g h cx cy D D2 s5 r5 G : Nat) : Prop where
  mW : floatBits .mul .f32 P mag = some W
  nW : Nm single W
  ab : floatToFloatBits .f64 (widen W % 9223372036854775808) .f32 = some w32
  l : LongW u v L
  r : floatBits .quo .f32 L w32 = some R
  nR : Nm single R
  me : MulW 0 1065353216 u v e f
  qw : QuotW e f W 0 g h
  sx : floatBits .sub .f32 x g = some cx
  sy : floatBits .sub .f32 y h = some cy
  ncx : Nm single cx
  ncy : Nm single cy
  ap : ApartW x y cx cy D
  w2 : floatToFloatBits .f32 R .f64 = some D2
  a5 : floatBits .add .f64 4607182418800017408 D2 = some s5
  m5 : floatBits .mul .f64 4562254508917369340 s5 = some r5
  gp : GapW D D2 G
  o : (FloatKind.f64.format.order G r5 == some .gt) = false
theorem spin_any {x y u v q m mag tick fx fy P h0 : Nat} (I : PIn x y u v q m mag tick fx fy) (H : PH q m tick P h0) (bx : Cl (V single x) 0 8) (bY : Cl (V single y) 0 8) (hq : 1 / 2 ≤ V single q ∨ V single q ≤ -(1 / 2)) (hμ : 1 / 8 ≤ V single mag ∨ V single mag ≤ -(1 / 8)) :
    ∃ W w32 L R e f g h cx cy D D2 s5 r5 G, SpinN x y u v q m mag P W w32 L R e f g h cx cy D D2 s5 r5 G := by
  have z := nm_zero
  have one := nm_one
  have hP := pull_low H I.P.hq I.P.hm I.bq I.m0 I.m1 hq
  have u4 : p2 4 = 16 := by decide +kernel
  have s4 : ulp single 4 = 1 / 1048576 := by decide +kernel
  obtain ⟨W, mW, aW⟩ := (Ap.self H.nP H.bP).mul good_single (Ap.self I.nmag I.bmag) 4 (ex_single (by decide) (by decide)) (e' := 1 / 1048576) (B' := 9) (by rw [u4]; grind) (by rw [s4]; grind) (by grind)
  have hPm : 1 / 40 ≤ V single P * V single mag ∨ V single P * V single mag ≤ -(1 / 40) := by
    rcases hP with a | a <;> rcases hμ with b | b
    · left; have := Rat.mul_nonneg (a := V single P - 1 / 5) (b := V single mag - 1 / 8) (by grind) (by grind); grind
    · right; have := Rat.mul_nonneg (a := V single P - 1 / 5) (b := -V single mag - 1 / 8) (by grind) (by grind); grind
    · right; have := Rat.mul_nonneg (a := -V single P - 1 / 5) (b := V single mag - 1 / 8) (by grind) (by grind); grind
    · left; have := Rat.mul_nonneg (a := -V single P - 1 / 5) (b := -V single mag - 1 / 8) (by grind) (by grind); grind
  have hW : 1 / 41 ≤ V single W ∨ V single W ≤ -(1 / 41) := by
    have := aW.cl
    unfold Cl at this
    rcases hPm with a | a
    · left; grind
    · right; grind
  have bW := aW.abs
  have nW := aW.nm
  clear hPm hP aW
  -- the absolute value and its narrowing
  obtain ⟨nw, vw⟩ := widen_val nW
  obtain ⟨nA, A0, vA⟩ := abs64_V nw
  rw [vw] at vA
  generalize hAw : widen W % 9223372036854775808 = Aw at *
  obtain ⟨w32, ab, n32, c32, _⟩ := narrow_V nA 4 (by rw [u4]; unfold Cl at *; rcases vA with a | a <;> rw [a] <;> constructor <;> grind) (ex_single (by decide) (by decide))
  rw [s4] at c32
  have hA : 1 / 41 ≤ V double Aw := by rcases vA with a | a <;> rcases hW with b | b <;> grind
  have h32 : 1 / 42 ≤ V single w32 := by unfold Cl at c32; grind
  have b32 : V single w32 ≤ 10 := by unfold Cl at c32 bW; rcases vA with a | a <;> grind
  obtain ⟨s, hs⟩ : ∃ s : Rat, s * V double Aw = 1 := ⟨(V double Aw)⁻¹, Rat.inv_mul_cancel _ (by grind)⟩
  obtain ⟨ι, hι⟩ : ∃ ι : Rat, ι * V single W = 1 := ⟨(V single W)⁻¹, Rat.inv_mul_cancel _ (by rcases hW with a | a <;> grind)⟩
  have ss : s * s = ι * ι := by
    rcases vA with a | a
    · rw [a] at hs
      have : (s - ι) * V single W = 0 := by grind
      rcases Rat.mul_eq_zero.1 this with h | h <;> grind
    · rw [a] at hs
      have : (s + ι) * V single W = 0 := by grind
      rcases Rat.mul_eq_zero.1 this with h | h <;> grind
  have s0 : 0 ≤ s := by
    rcases Rat.le_total (a := 0) (b := s) with h | h
    · exact h
    · have := Rat.mul_nonneg (a := -s) (b := V double Aw) (by grind) A0
      grind
  have bs : Cl s 0 41 := (inv_bdc (c := 1 / 41) (C := 41) (Φ := 1) (by grind) (by grind) (by grind) (.inl hA) (F := 1) (by unfold Cl; constructor <;> grind) hs).mono (by grind)
  have bι : Cl ι 0 41 := (inv_bdc (c := 1 / 41) (C := 41) (Φ := 1) (by grind) (by grind) (by grind) hW (F := 1) (by unfold Cl; constructor <;> grind) hι).mono (by grind)
  -- the radius
  obtain ⟨L, lw, len⟩ := long2 I.P.hu I.P.hv (I.bu.mono (by grind)) (I.bv.mono (by grind))
  have qu := I.bu.prod I.bu
  have qv := I.bv.prod I.bv
  have L0 := len.pos
  have L1 := len.high (3 / 2 - 1 / 100) (by grind) (by unfold Cl at qu qv; grind)
  have u6 : p2 6 = 64 := by decide +kernel
  have s8 : ulp single (6 + 2) = 1 / 65536 := by decide +kernel
  have hw0 : V single w32 ≠ 0 := by grind
  obtain ⟨q0, hq0⟩ : ∃ q0 : Rat, q0 * V single w32 = V single L := ⟨V single L * (V single w32)⁻¹, by rw [Rat.mul_assoc, Rat.inv_mul_cancel _ hw0, Rat.mul_one]⟩
  have bq0 : Cl q0 0 63 := (inv_bdc (c := 1 / 42) (C := 42) (Φ := 3 / 2) (by grind) (by grind) (by grind) (.inl h32) (F := V single L) (by unfold Cl; constructor <;> grind) hq0).mono (by grind)
  obtain ⟨R, rq, nR, cR, R0⟩ := div_near good_single len.nm n32 hw0 6 q0 hq0 (bq0.mono (by rw [u6]; grind)) (ex_single (by decide) (by decide)) (by decide)
  rw [s8] at cR
  have ℓ0 : 0 ≤ V single L * s := Rat.mul_nonneg L0 s0
  have bℓ : V single L * s ≤ 62 := by
    have := Rat.mul_nonneg (a := 3 / 2 - V single L) (b := s) (by grind) s0
    unfold Cl at bs
    grind
  have cq : Cl q0 (V single L * s) (V single L * s / 20000) := by
    have e1 : (q0 - V single L * s) * V single w32 = (V single L * s) * (V double Aw - V single w32) := by
      have : V single L * s * V double Aw = V single L := by rw [Rat.mul_assoc, hs, Rat.mul_one]
      grind
    have := inv_bdc (c := 1 / 42) (C := 42) (Φ := V single L * s * (1 / 1048576)) (by grind) (by grind) (by grind) (.inl h32) (by
      have p1 := Rat.mul_nonneg (a := V single L * s) (b := 1 / 1048576 - (V double Aw - V single w32)) ℓ0 (by unfold Cl at c32; grind)
      have p2' := Rat.mul_nonneg (a := V single L * s) (b := 1 / 1048576 + (V double Aw - V single w32)) ℓ0 (by unfold Cl at c32; grind)
      unfold Cl
      constructor <;> grind) e1
    unfold Cl at *
    constructor <;> grind
  -- the centre
  have u2 : p2 2 = 4 := by decide +kernel
  have l2 : ulp double 2 = 1 / 2251799813685248 := by decide +kernel
  have s2 : ulp single 2 = 1 / 4194304 := by decide +kernel
  obtain ⟨e, f, me, ae, af⟩ := mul_cl (a := 0) (b := 1065353216) (A := 1) (C := 1) z.1 one.1 I.P.hu I.P.hv (by rw [z.2]; unfold Cl; constructor <;> grind) (by rw [one.2]; unfold Cl; constructor <;> grind) I.bu I.bv 2 (ex_double (by decide) (by decide)) (by rw [u2]; grind) (by rw [l2]; grind) (η := 1 / 562949953421312) (by rw [l2]; grind) 2 (ex_single (by decide) (by decide)) (by rw [u2]; grind) (e' := 1 / 4000000) (by rw [s2]; grind)
  rw [z.2, one.2] at ae af
  have ce := ae.cl
  have cf := af.cl
  have be : Cl (V single e) 0 (3 / 2) := by have := I.bv; unfold Cl at *; constructor <;> grind
  have bf : Cl (V single f) 0 (3 / 2) := by have := I.bu; unfold Cl at *; constructor <;> grind
  have be' : Cl (V single e * ι) 0 62 := (be.prod bι).mono (by grind)
  have bf' : Cl (V single f * ι) 0 62 := (bf.prod bι).mono (by grind)
  have W2 : 1 / 1681 ≤ V single W * V single W := by
    rcases hW with a | a
    · have := Rat.mul_nonneg (a := V single W - 1 / 41) (b := V single W - 1 / 41) (by grind) (by grind); grind
    · have := Rat.mul_nonneg (a := -V single W - 1 / 41) (b := -V single W - 1 / 41) (by grind) (by grind); grind
  have u8 : p2 8 = 256 := by decide +kernel
  have l8 : ulp double 8 = 1 / 35184372088832 := by decide +kernel
  have l8' : ulp double (6 + 2) = 1 / 35184372088832 := by decide +kernel
  have s6 : ulp single 6 = 1 / 262144 := by decide +kernel
  obtain ⟨g, h, qw, ag, ah⟩ := quot_near (A := 3 / 2) (C := 10) ae.nm af.nm nW z.1 be bf (bW.mono (by grind)) (by rw [z.2]; unfold Cl; constructor <;> grind) 8 (ex_double (by decide) (by decide)) (by rw [u8]; grind) (by rw [u8]; grind) (by rw [l8]; grind) (η := 1 / 8796093022208) (by rw [l8]; grind)
    (V single e * ι) (V single f * ι) 62 (1 / 1681) (1 / 50000000) (by rw [z.2]; grind) (by rw [z.2]; grind) be' bf' (by rw [z.2]; grind) (by grind) (by grind) 6 (ex_double (by decide) (by decide)) (by rw [u6]; grind) (κ := 1 / 40000000) (by rw [l8']; grind) 6 (ex_single (by decide) (by decide)) (by rw [u6]; grind) (e' := 1 / 250000) (by rw [s6]; grind)
  have u7 : p2 7 = 128 := by decide +kernel
  have s7 : ulp single 7 = 1 / 131072 := by decide +kernel
  have cg := ag.cl
  have ch := ah.cl
  obtain ⟨cx, sx, ncx, ccx, _⟩ := sub_near good_single I.P.hx ag.nm 7 (by clear qu qv ce cf cq ch; rw [u7]; unfold Cl at *; constructor <;> grind) (ex_single (by decide) (by decide))
  obtain ⟨cy, sy, ncy, ccy, _⟩ := sub_near good_single I.P.hy ah.nm 7 (by clear qu qv ce cf cq cg; rw [u7]; unfold Cl at *; constructor <;> grind) (ex_single (by decide) (by decide))
  rw [s7] at ccx ccy
  obtain ⟨r, rx, nr, cr, _⟩ := sub_near good_single I.P.hx ncx 6 (by clear qu qv ce cf cq ch; rw [u6]; unfold Cl at *; constructor <;> grind) (ex_single (by decide) (by decide))
  obtain ⟨t, ry, nt, ct, _⟩ := sub_near good_single I.P.hy ncy 6 (by clear qu qv ce cf cq cg; rw [u6]; unfold Cl at *; constructor <;> grind) (ex_single (by decide) (by decide))
  rw [s6] at cr ct
  have fr : Cl (V single r) (V single e * ι) (1 / 60000) := by clear qu qv ce cf cq ch ct ccy; unfold Cl at *; constructor <;> grind
  have ft : Cl (V single t) (V single f * ι) (1 / 60000) := by clear qu qv ce cf cq cg cr ccx; unfold Cl at *; constructor <;> grind
  obtain ⟨L5, lw5, len5⟩ := long256 nr nt (by clear qu qv ce cf cq ch ct ccy ft; unfold Cl at *; constructor <;> grind) (by clear qu qv ce cf cq cg cr ccx fr; unfold Cl at *; constructor <;> grind)
  obtain ⟨D, wD, nD, vD⟩ := widen_V len5.nm
  have lv5 := len5.lv.nr (NR.of fr ft) (by grind) (by grind)
  have e5 : V single e * ι * (V single e * ι) + V single f * ι * (V single f * ι) = (V single e * V single e + V single f * V single f) * (s * s) := by rw [ss]; grind
  rw [e5] at lv5
  have n1 := NR.of (a := -V single v) (b := V single u) (c := V single e) (d := V single f) (ε := 1 / 4000000) (by unfold Cl at *; constructor <;> grind) (by unfold Cl at *; constructor <;> grind)
  have e6 : -V single v * -V single v + V single u * V single u = V single u * V single u + V single v * V single v := by grind
  rw [e6] at n1
  have lvL := (len.lv.nr n1 (by grind) (by grind)).scale s s0 (by have := bself_nonneg (V single e); have := bself_nonneg (V single f); grind)
  have gp := lv5.gap lvL (by grind) (by grind)
  have cgap : Cl (V single L5) (V single L * s) (1 / 4000) := by unfold Cl at bs gp ⊢; constructor <;> grind
  clear lv5 lvL gp n1 e5 e6 fr ft cr ct ccx ccy cg ch ce cf qu qv be bf be' bf'
  have Rb : V single R ≤ 64 := by unfold Cl at *; grind
  obtain ⟨D2, s5, r5, w2, a5, m5, n5, v5⟩ := toler nR (R0 (by
    rcases Rat.le_total (a := 0) (b := q0) with h | h
    · exact h
    · have := le_of_mul (q := -q0) (N := V single w32) (B := 0) (by grind) (by grind)
      grind)) (by grind)
  obtain ⟨_, w2', nD2, vD2⟩ := widen_V nR
  rw [w2] at w2'
  injection w2' with w2'
  subst w2'
  have l0 : ulp double 0 ≤ 1 / 100000000 := by decide +kernel
  have u0 : p2 0 = 1 := by decide +kernel
  obtain ⟨G, gG, nG, _, vG⟩ := gap_near nD nD2 (1 / 3500 + V single L * s / 20000) (by rw [vD, vD2]; unfold Cl at *; constructor <;> grind) 0 (ex_double (by decide) (by decide)) (by rw [u0]; grind)
  have o := not_gt nG n5 (by unfold Cl at cR cq; grind)
  exact ⟨W, w32, L, R, e, f, g, h, cx, cy, D, _, s5, r5, G, mW, nW, by rw [hAw]; exact ab, lw, rq, nR, me, qw, sx, sy, ncx, ncy, ⟨r, t, L5, rx, ry, lw5, wD⟩, w2, a5, m5, gG, o⟩
end Go.Proofs.Ytegojadabfeokaa
