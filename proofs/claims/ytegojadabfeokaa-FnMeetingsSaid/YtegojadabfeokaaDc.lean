/- Plain: all that the law FnMeetings asks, told of words: the whole. No program. -/
import Derived.Test.YtegojadabfeokaaDb
namespace Go.Proofs.Ytegojadabfeokaa
open Ieee Go
set_option linter.unusedVariables false

structure MTold (u1 u2 v1 v2 ma mb c s bc bs px py o1 o2 t1 t2 e1 e2 f1 f2 qx qy g1 g2 h1 h2 b1 b2 c1 c2 D1 X Y X6 Y6 G1 Da Db G2 D3 D4 D5 : Nat) : Prop where
  B1 : BetwW u1 u2 v1 v2 ma mb px py
  npx : Nm single px
  npy : Nm single py
  M1 : MeetW u1 u2 v1 v2 ma mb c s px py o1 o2 t1 t2
  no : Nm single o1 ∧ Nm single o2 ∧ Nm single t1 ∧ Nm single t2
  M2 : MeetW u1 u2 v1 v2 ma mb bc bs px py e1 e2 f1 f2
  ne : Nm single e1 ∧ Nm single e2 ∧ Nm single f1 ∧ Nm single f2
  B2 : BetwW e1 e2 f1 f2 ma mb qx qy
  nqx : Nm single qx
  nqy : Nm single qy
  M3 : MeetW e1 e2 f1 f2 ma mb bc bs qx qy g1 g2 h1 h2
  ng : Nm single g1 ∧ Nm single g2 ∧ Nm single h1 ∧ Nm single h2
  m1 : MomW u1 u2 v1 v2 ma mb b1 b2
  m2 : MomW o1 o2 t1 t2 ma mb c1 c2
  a1 : ApartW b1 b2 c1 c2 D1
  r1 : (FloatKind.f64.format.order D1 4562254508917369340 == some .lt) = true
  w1 : EnW u1 u2 v1 v2 ma mb X
  w2 : EnW o1 o2 t1 t2 ma mb Y
  x6 : floatToFloatBits .f32 X .f64 = some X6
  y6 : floatToFloatBits .f32 Y .f64 = some Y6
  g6 : GapW X6 Y6 G1
  r2 : (FloatKind.f64.format.order G1 4562254508917369340 == some .lt) = true
  aa : ApartW u1 u2 v1 v2 Da
  ab : ApartW o1 o2 t1 t2 Db
  g7 : GapW Da Db G2
  r3 : (FloatKind.f64.format.order G2 4562254508917369340 == some .lt) = true
  a3 : ApartW g1 g2 u1 u2 D3
  r4 : (FloatKind.f64.format.order D3 4562254508917369340 == some .lt) = true
  a4 : ApartW h1 h2 v1 v2 D4
  r5 : (FloatKind.f64.format.order D4 4562254508917369340 == some .lt) = true
  a5 : ApartW px py qx qy D5
  r6 : (FloatKind.f64.format.order D5 4562254508917369340 == some .lt) = true
theorem sub_ap {a b c d : Nat} (na : Nm single a) (nb : Nm single b) (nc : Nm single c) (nd : Nm single d) (h1 : Cl (V single a) 0 4) (h2 : Cl (V single b) 0 4) (h3 : Cl (V single c) 0 4) (h4 : Cl (V single d) 0 4) {x y e : Rat} (hx : Cl (V single a - V single c) x e) (hy : Cl (V single b - V single d) y e) : ∃ D, ApartW a b c d D ∧ Nm double D ∧ LV (V double D) (x * x + y * y) (1 / 8000 + 2 * (e + 1 / 2097152)) := by
  have u3 : p2 3 = 8 := by decide +kernel
  have s3 : ulp single 3 = 1 / 2097152 := by decide +kernel
  have e0 := hx.nonneg
  obtain ⟨r, q1, n1, c1, _⟩ := sub_near good_single na nc 3 (by rw [u3]; unfold Cl at *; constructor <;> grind) (ex_single (by decide) (by decide))
  obtain ⟨s, q2, n2, c2, _⟩ := sub_near good_single nb nd 3 (by rw [u3]; unfold Cl at *; constructor <;> grind) (ex_single (by decide) (by decide))
  rw [s3] at c1 c2
  obtain ⟨L, hL, len⟩ := long256 n1 n2 (by unfold Cl at *; constructor <;> grind) (by unfold Cl at *; constructor <;> grind)
  obtain ⟨D, hD, nD, vD⟩ := widen_V len.nm
  have lv := len.lv.nr (NR.of (c := x) (d := y) (ε := e + 1 / 2097152) ((c1.trans hx).mono (by grind)) ((c2.trans hy).mono (by grind))) (by grind) (by grind)
  exact ⟨D, ⟨r, s, L, q1, q2, hL, hD⟩, nD, by rw [vD]; exact lv⟩
/-- A turn by a half, nearly: the opposite. -/
theorem half_turn {d1 d2 c s B : Rat} (hc : Cl c (-1) (1 / 1000000)) (hs : Cl s 0 (1 / 1000000)) (h1 : Cl d1 0 B) (h2 : Cl d2 0 B) : Cl (d1 * c - d2 * s) (-d1) (B / 500000) ∧ Cl (d1 * s + d2 * c) (-d2) (B / 500000) := by
  have p1 := h1.prod hc.zero_of
  have p2' := h2.prod hs
  have p3 := h1.prod hs
  have p4 := h2.prod hc.zero_of
  unfold Cl at *
  refine ⟨⟨?_, ?_⟩, ⟨?_, ?_⟩⟩ <;> grind
/-- Energies: what the shares make of it. -/
theorem energy_id {κ1 κ2 a b u1 u2 v1 v2 r1 r2 : Rat} (S : Sh κ1 κ2 a b) :
    a * ((κ2 * u1 + κ1 * v1 + κ1 * r1) * (κ2 * u1 + κ1 * v1 + κ1 * r1) + (κ2 * u2 + κ1 * v2 + κ1 * r2) * (κ2 * u2 + κ1 * v2 + κ1 * r2)) + b * ((κ2 * u1 + κ1 * v1 - κ2 * r1) * (κ2 * u1 + κ1 * v1 - κ2 * r1) + (κ2 * u2 + κ1 * v2 - κ2 * r2) * (κ2 * u2 + κ1 * v2 - κ2 * r2)) - (a * (u1 * u1 + u2 * u2) + b * (v1 * v1 + v2 * v2))
      = (a + b) * (κ1 * κ2) * (r1 * r1 + r2 * r2 - ((u1 - v1) * (u1 - v1) + (u2 - v2) * (u2 - v2))) := by
  obtain ⟨_, _, hs, h1, h2⟩ := S
  have e2 : κ2 = 1 - κ1 := by grind
  subst e2
  generalize a + b = M at *
  have ea : a = (1 - κ1) * M := h2.symm
  have eb : b = κ1 * M := h1.symm
  subst ea eb
  grind
theorem told_meet {u1 u2 v1 v2 ma mb c s bc bs : Nat} (I : MIn u1 u2 v1 v2 ma mb 1) (nc : Nm single c) (ns : Nm single s) (hcs : Cl (V single c * V single c + V single s * V single s) 1 (1 / 1000000)) (nbc : Nm single bc) (nbs : Nm single bs) (hbc : Cl (V single bc) (-1) (1 / 1000000)) (hbs : Cl (V single bs) 0 (1 / 1000000)) :
    ∃ px py o1 o2 t1 t2 e1 e2 f1 f2 qx qy g1 g2 h1 h2 b1 b2 c1 c2 D1 X Y X6 Y6 G1 Da Db G2 D3 D4 D5, MTold u1 u2 v1 v2 ma mb c s bc bs px py o1 o2 t1 t2 e1 e2 f1 f2 qx qy g1 g2 h1 h2 b1 b2 c1 c2 D1 X Y X6 Y6 G1 Da Db G2 D3 D4 D5 := by
  obtain ⟨κ1, κ2, S⟩ := sh_ex I.a0 I.b0
  have s1 := bself_nonneg (V single c)
  have s2 := bself_nonneg (V single s)
  have part : ∀ a : Rat, a * a ≤ 1 + 1 / 1000000 → Cl a 0 (101 / 100) := fun a ha => by
    unfold Cl
    constructor
    · rcases Rat.le_total (a := a) (b := 0) with h0 | h0
      · grind
      · have := sq_le (a := a) (b := 101 / 100) h0 (by grind) (by grind); grind
    · rcases Rat.le_total (a := -a) (b := 0) with h0 | h0
      · grind
      · have := sq_le (a := -a) (b := 101 / 100) h0 (by grind) (by grind); grind
  have bc' : Cl (V single c) 0 (101 / 100) := part _ (by unfold Cl at hcs; grind)
  have bs' : Cl (V single s) 0 (101 / 100) := part _ (by unfold Cl at hcs; grind)
  have bbc : Cl (V single bc) 0 (101 / 100) := by unfold Cl at *; constructor <;> grind
  have bbs : Cl (V single bs) 0 (101 / 100) := by unfold Cl at *; constructor <;> grind
  obtain ⟨px, py, B1, npx, npy, cpx, cpy⟩ := betw_near1 S I.na I.nb I.a0 I.a2 I.b0 I.b2 I.n1 I.n2 I.n3 I.n4 I.h1 I.h2 I.h3 I.h4
  obtain ⟨o1, o2, t1, t2, M1, no, co1, co2, ct1, ct2⟩ := meet_near1 S I.na I.nb I.a0 I.a2 I.b0 I.b2 I.n1 I.n2 I.n3 I.n4 I.h1 I.h2 I.h3 I.h4 npx npy cpx cpy nc ns bc' bs'
  obtain ⟨e1, e2, f1, f2, M2, ne, ce1, ce2, cf1, cf2⟩ := meet_near1 S I.na I.nb I.a0 I.a2 I.b0 I.b2 I.n1 I.n2 I.n3 I.n4 I.h1 I.h2 I.h3 I.h4 npx npy cpx cpy nbc nbs bbc bbs
  have P1b := mean_bd S I.h1 I.h3
  have P2b := mean_bd S I.h2 I.h4
  have d1b : Cl (V single u1 - V single v1) 0 2 := by have := I.h1; have := I.h3; unfold Cl at *; constructor <;> grind
  have d2b : Cl (V single u2 - V single v2) 0 2 := by have := I.h2; have := I.h4; unfold Cl at *; constructor <;> grind
  have κs := S.s
  have κ10 := S.p1
  have κ20 := S.p2
  have bκ1 : Cl κ1 0 1 := by unfold Cl; constructor <;> grind
  have bκ2 : Cl κ2 0 1 := by unfold Cl; constructor <;> grind
  have C := c001
  -- thrown back: speeds behind the first
  obtain ⟨ρ1, ρ2⟩ := half_turn hbc hbs d1b d2b
  have near1 : ∀ (e P ρ d κ : Rat), Cl e (P + κ * ρ) (1 / 70000) → Cl ρ (-d) (2 / 500000) → Cl κ 0 1 → Cl e (P - κ * d) (1 / 50000) := fun e P ρ d κ he hρ hκ => by
    have := hκ.prod hρ.zero_of
    unfold Cl at *
    constructor <;> grind
  have near2 : ∀ (e P ρ d κ : Rat), Cl e (P - κ * ρ) (1 / 70000) → Cl ρ (-d) (2 / 500000) → Cl κ 0 1 → Cl e (P + κ * d) (1 / 50000) := fun e P ρ d κ he hρ hκ => by
    have := hκ.prod hρ.zero_of
    unfold Cl at *
    constructor <;> grind
  have E1 := near1 _ _ _ _ _ ce1 ρ1 bκ1
  have E2 := near1 _ _ _ _ _ ce2 ρ2 bκ1
  have F1 := near2 _ _ _ _ _ cf1 ρ1 bκ2
  have F2 := near2 _ _ _ _ _ cf2 ρ2 bκ2
  clear ce1 ce2 cf1 cf2 ρ1 ρ2 near1 near2
  have kd1 := bκ1.prod d1b
  have kd2 := bκ1.prod d2b
  have kd3 := bκ2.prod d1b
  have kd4 := bκ2.prod d2b
  have be1 : Cl (V single e1) 0 4 := by clear kd2 kd3 kd4 E2 F1 F2 cpx cpy co1 co2 ct1 ct2 hcs; unfold Cl at *; constructor <;> grind
  have be2 : Cl (V single e2) 0 4 := by clear kd1 kd3 kd4 E1 F1 F2 cpx cpy co1 co2 ct1 ct2 hcs; unfold Cl at *; constructor <;> grind
  have bf1 : Cl (V single f1) 0 4 := by clear kd1 kd2 kd4 E1 E2 F2 cpx cpy co1 co2 ct1 ct2 hcs; unfold Cl at *; constructor <;> grind
  have bf2 : Cl (V single f2) 0 4 := by clear kd1 kd2 kd3 E1 E2 F1 cpx cpy co1 co2 ct1 ct2 hcs; unfold Cl at *; constructor <;> grind
  obtain ⟨qx, qy, B2, nqx, nqy, cqx, cqy⟩ := betw_near4 S I.na I.nb I.a0 I.a2 I.b0 I.b2 ne.1 ne.2.1 ne.2.2.1 ne.2.2.2 be1 be2 bf1 bf2
  obtain ⟨g1, g2, h1, h2, M3, ng, cg1, cg2, ch1, ch2⟩ := meet_near4 S I.na I.nb I.a0 I.a2 I.b0 I.b2 ne.1 ne.2.1 ne.2.2.1 ne.2.2.2 be1 be2 bf1 bf2 nqx nqy cqx cqy nbc nbs bbc bbs
  -- the mean of what was thrown back is the mean
  have back : ∀ (e f u v : Rat), Cl e (κ2 * u + κ1 * v - κ1 * (u - v)) (1 / 50000) → Cl f (κ2 * u + κ1 * v + κ2 * (u - v)) (1 / 50000) → Cl (κ2 * e + κ1 * f) (κ2 * u + κ1 * v) (1 / 50000) ∧ Cl (e - f) (-(u - v)) (1 / 25000) := fun e f u v he hf => by
    have q1 := bκ2.prod he.zero_of
    have r1 := Rat.mul_nonneg κ20 (b := 1 / 50000 - (e - (κ2 * u + κ1 * v - κ1 * (u - v)))) (by unfold Cl at he; grind)
    have r2 := Rat.mul_nonneg κ20 (b := 1 / 50000 + (e - (κ2 * u + κ1 * v - κ1 * (u - v)))) (by unfold Cl at he; grind)
    have r3 := Rat.mul_nonneg κ10 (b := 1 / 50000 - (f - (κ2 * u + κ1 * v + κ2 * (u - v)))) (by unfold Cl at hf; grind)
    have r4 := Rat.mul_nonneg κ10 (b := 1 / 50000 + (f - (κ2 * u + κ1 * v + κ2 * (u - v)))) (by unfold Cl at hf; grind)
    have ek : κ2 = 1 - κ1 := by grind
    subst ek
    unfold Cl at *
    refine ⟨⟨?_, ?_⟩, ⟨?_, ?_⟩⟩ <;> grind
  obtain ⟨K1, J1⟩ := back _ _ _ _ E1 F1
  obtain ⟨K2, J2⟩ := back _ _ _ _ E2 F2
  have dd1 : Cl (V single e1 - V single f1) 0 (5 / 2) := by clear K1 K2 J2 cqx cqy cg1 cg2 ch1 ch2 E1 E2 F1 F2; unfold Cl at *; constructor <;> grind
  have dd2 : Cl (V single e2 - V single f2) 0 (5 / 2) := by clear K1 K2 J1 cqx cqy cg1 cg2 ch1 ch2 E1 E2 F1 F2; unfold Cl at *; constructor <;> grind
  obtain ⟨σ1, σ2⟩ := half_turn hbc hbs dd1 dd2
  have fin1 : ∀ (g Q ρ df u v : Rat), Cl g (Q + κ1 * ρ) (1 / 15000) → Cl Q (κ2 * u + κ1 * v) (1 / 50000) → Cl ρ (-df) (5 / 2 / 500000) → Cl df (-(u - v)) (1 / 25000) → Cl g u (1 / 6000) := fun g Q ρ df u v hg hQ hρ hd => by
    have q := bκ1.prod (a := κ1) (b := ρ - (u - v)) (β := 1 / 20000) (by unfold Cl at *; constructor <;> grind)
    have ek : κ2 = 1 - κ1 := by grind
    subst ek
    unfold Cl at *
    constructor <;> grind
  have fin2 : ∀ (h Q ρ df u v : Rat), Cl h (Q - κ2 * ρ) (1 / 15000) → Cl Q (κ2 * u + κ1 * v) (1 / 50000) → Cl ρ (-df) (5 / 2 / 500000) → Cl df (-(u - v)) (1 / 25000) → Cl h v (1 / 6000) := fun h Q ρ df u v hg hQ hρ hd => by
    have q := bκ2.prod (a := κ2) (b := ρ - (u - v)) (β := 1 / 20000) (by unfold Cl at *; constructor <;> grind)
    have ek : κ1 = 1 - κ2 := by grind
    subst ek
    unfold Cl at *
    constructor <;> grind
  have G1 := fin1 _ _ _ _ _ _ cg1 K1 σ1 J1
  have G2 := fin1 _ _ _ _ _ _ cg2 K2 σ2 J2
  have H1 := fin2 _ _ _ _ _ _ ch1 K1 σ1 J1
  have H2 := fin2 _ _ _ _ _ _ ch2 K2 σ2 J2
  obtain ⟨D3, a3, nD3, _, vD3⟩ := apart_near ng.1 ng.2.1 I.n1 I.n2 _ G1 G2 (by grind)
  obtain ⟨D4, a4, nD4, _, vD4⟩ := apart_near ng.2.2.1 ng.2.2.2 I.n3 I.n4 _ H1 H2 (by grind)
  have r4 := is_lt nD3 C.1 (by grind)
  have r5 := is_lt nD4 C.1 (by grind)
  obtain ⟨D5, a5, nD5, _, vD5⟩ := apart_near npx npy nqx nqy (1 / 20000) (by have := cpx; have := cqx; clear K2 J1 J2 E1 E2 F1 F2 cg1 cg2 ch1 ch2; unfold Cl at *; constructor <;> grind) (by have := cpy; have := cqy; clear K1 J1 J2 E1 E2 F1 F2 cg1 cg2 ch1 ch2; unfold Cl at *; constructor <;> grind) (by grind)
  have r6 := is_lt nD5 C.1 (by grind)
  clear cg1 cg2 ch1 ch2 K1 K2 J1 J2 σ1 σ2 G1 G2 H1 H2 fin1 fin2 back dd1 dd2 cqx cqy E1 E2 F1 F2 kd1 kd2 kd3 kd4 be1 be2 bf1 bf2 vD3 vD4 vD5 hbc hbs bbc bbs
  -- the turned difference
  have x1 := d1b.prod bc'
  have x2 := d2b.prod bs'
  have x3 := d1b.prod bs'
  have x4 := d2b.prod bc'
  have eσ : ((V single u1 - V single v1) * V single c - (V single u2 - V single v2) * V single s) * ((V single u1 - V single v1) * V single c - (V single u2 - V single v2) * V single s) + ((V single u1 - V single v1) * V single s + (V single u2 - V single v2) * V single c) * ((V single u1 - V single v1) * V single s + (V single u2 - V single v2) * V single c) = ((V single u1 - V single v1) * (V single u1 - V single v1) + (V single u2 - V single v2) * (V single u2 - V single v2)) * (V single c * V single c + V single s * V single s) := by grind
  have bR1 : Cl ((V single u1 - V single v1) * V single c - (V single u2 - V single v2) * V single s) 0 (41 / 10) := by clear x3 x4 co1 co2 ct1 ct2 cpx cpy hcs eσ; unfold Cl at *; constructor <;> grind
  have bR2 : Cl ((V single u1 - V single v1) * V single s + (V single u2 - V single v2) * V single c) 0 (41 / 10) := by clear x1 x2 co1 co2 ct1 ct2 cpx cpy hcs eσ; unfold Cl at *; constructor <;> grind
  clear x1 x2 x3 x4
  have dq1 := d1b.prod d1b
  have dq2 := d2b.prod d2b
  have dN : (V single u1 - V single v1) * (V single u1 - V single v1) + (V single u2 - V single v2) * (V single u2 - V single v2) ≤ 9 := by unfold Cl at dq1 dq2; grind
  have dN0 : 0 ≤ (V single u1 - V single v1) * (V single u1 - V single v1) + (V single u2 - V single v2) * (V single u2 - V single v2) := by have := bself_nonneg (V single u1 - V single v1); have := bself_nonneg (V single u2 - V single v2); grind
  generalize hR1 : (V single u1 - V single v1) * V single c - (V single u2 - V single v2) * V single s = R1 at *
  generalize hR2 : (V single u1 - V single v1) * V single s + (V single u2 - V single v2) * V single c = R2 at *
  have Q1 := bκ1.prod bR1
  have Q2 := bκ1.prod bR2
  have Q3 := bκ2.prod bR1
  have Q4 := bκ2.prod bR2
  have bo1 : Cl (V single o1) 0 6 := by clear Q2 Q3 Q4 co2 ct1 ct2 cpx cpy hcs eσ dq1 dq2 dN dN0; unfold Cl at *; constructor <;> grind
  have bo2 : Cl (V single o2) 0 6 := by clear Q1 Q3 Q4 co1 ct1 ct2 cpx cpy hcs eσ dq1 dq2 dN dN0; unfold Cl at *; constructor <;> grind
  have bt1 : Cl (V single t1) 0 6 := by clear Q1 Q2 Q4 co1 co2 ct2 cpx cpy hcs eσ dq1 dq2 dN dN0; unfold Cl at *; constructor <;> grind
  have bt2 : Cl (V single t2) 0 6 := by clear Q1 Q2 Q3 co1 co2 ct1 cpx cpy hcs eσ dq1 dq2 dN dN0; unfold Cl at *; constructor <;> grind
  have IO : MIn o1 o2 t1 t2 ma mb 6 := ⟨no.1, no.2.1, no.2.2.1, no.2.2.2, I.na, I.nb, bo1, bo2, bt1, bt2, I.a0, I.a2, I.b0, I.b2⟩
  have IU : MIn u1 u2 v1 v2 ma mb 6 := ⟨I.n1, I.n2, I.n3, I.n4, I.na, I.nb, I.h1.mono (by grind), I.h2.mono (by grind), I.h3.mono (by grind), I.h4.mono (by grind), I.a0, I.a2, I.b0, I.b2⟩
  -- momentum
  obtain ⟨b1, b2, m1, nb1, nb2, cb1, cb2⟩ := mom_near IU
  obtain ⟨c1, c2, m2, nc1, nc2, cc1, cc2⟩ := mom_near IO
  have mom : ∀ (o t u v R : Rat), Cl o (κ2 * u + κ1 * v + κ1 * R) (1 / 70000) → Cl t (κ2 * u + κ1 * v - κ2 * R) (1 / 70000) → Cl (o * V single ma + t * V single mb) (u * V single ma + v * V single mb) (4 / 70000) := fun o t u v R ho ht => by
    have ba : Cl (V single ma) 0 2 := by have := I.a0; have := I.a2; unfold Cl; constructor <;> grind
    have bb : Cl (V single mb) 0 2 := by have := I.b0; have := I.b2; unfold Cl; constructor <;> grind
    have q1 := ho.zero_of.prod ba
    have q2 := ht.zero_of.prod bb
    have e1 : (κ2 * u + κ1 * v + κ1 * R) * V single ma + (κ2 * u + κ1 * v - κ2 * R) * V single mb = u * V single ma + v * V single mb := by
      have a1 := S.h1
      have a2 := S.h2
      have ek : κ2 = 1 - κ1 := by grind
      subst ek
      generalize V single ma + V single mb = M at *
      have ea : V single ma = (1 - κ1) * M := a2.symm
      have eb : V single mb = κ1 * M := a1.symm
      rw [ea, eb]
      grind
    unfold Cl at *
    constructor <;> grind
  have N1 := mom _ _ _ _ _ co1 ct1
  have N2 := mom _ _ _ _ _ co2 ct2
  obtain ⟨D1, a1, nD1, _, vD1⟩ := apart_near nb1 nb2 nc1 nc2 (1 / 12000) (by clear N2 cb2 cc2 co1 co2 ct1 ct2 hcs eσ Q1 Q2 Q3 Q4; unfold Cl at *; constructor <;> grind) (by clear N1 cb1 cc1 co1 co2 ct1 ct2 hcs eσ Q1 Q2 Q3 Q4; unfold Cl at *; constructor <;> grind) (by grind)
  have r1 := is_lt nD1 C.1 (by grind)
  clear N1 N2 mom cb1 cb2 cc1 cc2 vD1
  -- lengths of differences
  obtain ⟨Da, aa, nDa, lva⟩ := sub_ap I.n1 I.n2 I.n3 I.n4 (I.h1.mono (by grind)) (I.h2.mono (by grind)) (I.h3.mono (by grind)) (I.h4.mono (by grind)) (Cl.refl _ (e := 0) (by grind)) (Cl.refl _ (e := 0) (by grind))
  have T1 : Cl (V single o1 - V single t1) R1 (2 / 70000) := by
    have e : κ1 * R1 = R1 - κ2 * R1 := by have : κ1 = 1 - κ2 := by grind
                                          rw [this]; grind
    clear co2 ct2 Q2 Q4 hcs eσ; unfold Cl at *; constructor <;> grind
  have T2 : Cl (V single o2 - V single t2) R2 (2 / 70000) := by
    have e : κ1 * R2 = R2 - κ2 * R2 := by have : κ1 = 1 - κ2 := by grind
                                          rw [this]; grind
    clear co1 ct1 Q1 Q3 hcs eσ; unfold Cl at *; constructor <;> grind
  obtain ⟨Db, ab, nDb, lvb⟩ : ∃ D, ApartW o1 o2 t1 t2 D ∧ Nm double D ∧ LV (V double D) (R1 * R1 + R2 * R2) (1 / 8000 + 2 * (2 / 70000 + 1 / 2097152)) := by
    have u3 : p2 3 = 8 := by decide +kernel
    have s3 : ulp single 3 = 1 / 2097152 := by decide +kernel
    obtain ⟨r, q1, n1, k1, _⟩ := sub_near good_single no.1 no.2.2.1 3 (by rw [u3]; clear co1 co2 ct1 ct2 Q1 Q2 Q3 Q4 hcs eσ T2; unfold Cl at *; constructor <;> grind) (ex_single (by decide) (by decide))
    obtain ⟨t, q2, n2, k2, _⟩ := sub_near good_single no.2.1 no.2.2.2 3 (by rw [u3]; clear co1 co2 ct1 ct2 Q1 Q2 Q3 Q4 hcs eσ T1; unfold Cl at *; constructor <;> grind) (ex_single (by decide) (by decide))
    rw [s3] at k1 k2
    have y1 := k1.trans T1
    have y2 := k2.trans T2
    obtain ⟨L, hL, len⟩ := long256 n1 n2 (by clear co1 co2 ct1 ct2 Q1 Q2 Q3 Q4 hcs eσ y2 k2; unfold Cl at *; constructor <;> grind) (by clear co1 co2 ct1 ct2 Q1 Q2 Q3 Q4 hcs eσ y1 k1; unfold Cl at *; constructor <;> grind)
    obtain ⟨D, hD, nD, vD⟩ := widen_V len.nm
    have lv := len.lv.nr (NR.of (c := R1) (d := R2) (ε := 2 / 70000 + 1 / 2097152) (y1.mono (by grind)) (y2.mono (by grind))) (by grind) (by grind)
    exact ⟨D, ⟨r, t, L, q1, q2, hL, hD⟩, nD, by rw [vD]; exact lv⟩
  have lva2 := lva.nr (nr_scale dN0 dN hcs) (by grind) (by grind)
  rw [← eσ] at lva2
  have gl := lva2.gap lvb (by grind) (by grind)
  have u0 : p2 0 = 1 := by decide +kernel
  have l0 : ulp double 0 ≤ 1 / 100000000 := by decide +kernel
  obtain ⟨G2, g7, nG2, _, vG2⟩ := gap_near nDa nDb (1 / 2000) (gl.mono (by grind)) 0 (ex_double (by decide) (by decide)) (by rw [u0]; grind)
  have r3 := is_lt nG2 C.1 (by grind)
  clear lva lva2 lvb gl T1 T2 vG2
  -- energies
  obtain ⟨X, w1, nX, cX⟩ := en_near IU
  obtain ⟨Y, w2, nY, cY⟩ := en_near IO
  have sqn : ∀ o p : Rat, Cl o p (1 / 70000) → Cl p 0 (51 / 10) → Cl (o * o) (p * p) (1 / 6800) := fun o p ho hp => by
    have := ho.mul ho hp hp
    exact this.mono (by grind)
  have pb1 : Cl (κ2 * V single u1 + κ1 * V single v1 + κ1 * R1) 0 (51 / 10) := by clear co1 co2 ct1 ct2 Q2 Q3 Q4 hcs eσ cX cY; unfold Cl at *; constructor <;> grind
  have pb2 : Cl (κ2 * V single u2 + κ1 * V single v2 + κ1 * R2) 0 (51 / 10) := by clear co1 co2 ct1 ct2 Q1 Q3 Q4 hcs eσ cX cY; unfold Cl at *; constructor <;> grind
  have pb3 : Cl (κ2 * V single u1 + κ1 * V single v1 - κ2 * R1) 0 (51 / 10) := by clear co1 co2 ct1 ct2 Q1 Q2 Q4 hcs eσ cX cY; unfold Cl at *; constructor <;> grind
  have pb4 : Cl (κ2 * V single u2 + κ1 * V single v2 - κ2 * R2) 0 (51 / 10) := by clear co1 co2 ct1 ct2 Q1 Q2 Q3 hcs eσ cX cY; unfold Cl at *; constructor <;> grind
  have z1 := sqn _ _ co1 pb1
  have z2 := sqn _ _ co2 pb2
  have z3 := sqn _ _ ct1 pb3
  have z4 := sqn _ _ ct2 pb4
  have id := energy_id (u1 := V single u1) (u2 := V single u2) (v1 := V single v1) (v2 := V single v2) (r1 := R1) (r2 := R2) S
  have rest : Cl ((V single ma + V single mb) * (κ1 * κ2) * (R1 * R1 + R2 * R2 - ((V single u1 - V single v1) * (V single u1 - V single v1) + (V single u2 - V single v2) * (V single u2 - V single v2)))) 0 (4 * 1 * (9 / 1000000)) := by
    refine Cl.prod (Cl.prod (α := 4) (β := 1) (by have := I.a0; have := I.a2; have := I.b0; have := I.b2; unfold Cl; constructor <;> grind) ((bκ1.prod bκ2).mono (by grind))) ?_
    rw [eσ]
    have q1 := Rat.mul_nonneg dN0 (b := (V single c * V single c + V single s * V single s) - (1 - 1 / 1000000)) (by unfold Cl at hcs; grind)
    have q2 := Rat.mul_nonneg dN0 (b := (1 + 1 / 1000000) - (V single c * V single c + V single s * V single s)) (by unfold Cl at hcs; grind)
    unfold Cl
    constructor <;> grind
  rw [← id] at rest
  generalize (κ2 * V single u1 + κ1 * V single v1 + κ1 * R1) * (κ2 * V single u1 + κ1 * V single v1 + κ1 * R1) = W1 at *
  generalize (κ2 * V single u2 + κ1 * V single v2 + κ1 * R2) * (κ2 * V single u2 + κ1 * V single v2 + κ1 * R2) = W2 at *
  generalize (κ2 * V single u1 + κ1 * V single v1 - κ2 * R1) * (κ2 * V single u1 + κ1 * V single v1 - κ2 * R1) = W3 at *
  generalize (κ2 * V single u2 + κ1 * V single v2 - κ2 * R2) * (κ2 * V single u2 + κ1 * V single v2 - κ2 * R2) = W4 at *
  clear id eσ hcs co1 co2 ct1 ct2 Q1 Q2 Q3 Q4 pb1 pb2 pb3 pb4 cpx cpy
  have ba : Cl (V single ma / 2) 0 1 := by have := I.a0; have := I.a2; unfold Cl; constructor <;> grind
  have bb : Cl (V single mb / 2) 0 1 := by have := I.b0; have := I.b2; unfold Cl; constructor <;> grind
  have e00 : (0 : Rat) + 0 = 0 := by grind
  have z12 := z1.zero_of.add z2.zero_of
  have z34 := z3.zero_of.add z4.zero_of
  rw [e00] at z12 z34
  have k1 := ba.prod z12
  have k2 := bb.prod z34
  obtain ⟨X6, x6, nX6, vX6⟩ := widen_V nX
  obtain ⟨Y6, y6, nY6, vY6⟩ := widen_V nY
  have cE : Cl (V single X) (V single Y) (1 / 1400) := by clear z1 z2 z3 z4 z12 z34; unfold Cl at *; constructor <;> grind
  obtain ⟨G1, g6, nG1, _, vG1⟩ := gap_near nX6 nY6 (1 / 1400) (by rw [vX6, vY6]; exact cE) 0 (ex_double (by decide) (by decide)) (by rw [u0]; grind)
  have r2 := is_lt nG1 C.1 (by grind)
  exact ⟨px, py, o1, o2, t1, t2, e1, e2, f1, f2, qx, qy, g1, g2, h1, h2, b1, b2, c1, c2, D1, X, Y, X6, Y6, G1, Da, Db, G2, D3, D4, D5, B1, npx, npy, M1, no, M2, ne, B2, nqx, nqy, M3, ng, m1, m2, a1, r1, w1, w2, x6, y6, g6, r2, aa, ab, g7, r3, a3, r4, a4, r5, a5, r6⟩
end Go.Proofs.Ytegojadabfeokaa
