/- Plain: drifts, leaps and leaps that are undone, as chains of operations on words: they run, what they end in is bounded, and what is undone is nearly what was. No condition on the program. Plain: a leap that is undone leads back, nearly; ways between places that are near each other. No condition on the program. -/
import Derived.Test.YtdonmboidpppmaaVb
import Derived.Test.YtdonmboidpppmaaBh
import Derived.Test.YtdonmboidpppmaaHa
import Derived.Test.YtdonmboidpppmaaVc
import Derived.Test.YtdonmboidpppmaaGf
namespace Go.Proofs.Ytdonmboidpppmaa
open Go Go.RowKit Ieee
set_option linter.unusedSimpArgs false
set_option linter.unusedVariables false

theorem quo_negl {a b r : Nat} (na : Nm single a) (nb : Nm single b) (hb : V single b ≠ 0) (h : floatBits .quo .f32 a b = some r) : floatBits .quo .f32 (Op.negFloat .f32 a) b = some (Op.negFloat .f32 r) := by
  obtain ⟨s, m, i, ha⟩ := na
  obtain ⟨t, n, j, hbb⟩ := nb
  have hn0 : n ≠ 0 := by
    intro e
    rw [V_of hbb, e, vn_zero] at hb
    exact hb rfl
  have hn : single.read (Op.negFloat .f32 a) = .number (!s) m i := by
    rw [show Op.negFloat .f32 a = a ^^^ single.signWeight from rfl, bread_neg, ha]; rfl
  have h' : single.div a b = some r := h
  show single.div (Op.negFloat .f32 a) b = some (r ^^^ single.signWeight)
  unfold Format.div at h' ⊢
  rw [ha, hbb] at h'
  rw [hn, hbb]
  simp only [Datum.quotient, if_neg hn0, Option.map_some, Option.some.injEq] at h' ⊢
  rw [← h']
  show single.nearest (!s ^^ t) _ _ = single.nearest (s ^^ t) _ _ ^^^ _
  rw [← nearest_flip]
  congr 1
  cases s <;> cases t <;> rfl

/-! ### Drifts -/
def DriftW (W H x y u v tick rx ry : Nat) : Prop := ∃ dx dy sx sy, floatBits .mul .f32 u tick = some dx ∧ floatBits .mul .f32 v tick = some dy ∧ floatBits .add .f32 x dx = some sx ∧ floatBits .add .f32 y dy = some sy ∧ Nm single sx ∧ Nm single sy ∧ WrapW sx W rx ∧ WrapW sy H ry
structure InG (W H rx ry : Nat) : Prop where
  nx : Nm single rx
  ny : Nm single ry
  x0 : 0 ≤ V single rx
  x1 : V single rx < (W : Rat)
  y0 : 0 ≤ V single ry
  y1 : V single ry < (H : Rat)
theorem drift_near {W H x y u v tick : Nat} (h : Sides W H) (nx : Nm single x) (ny : Nm single y) (nu : Nm single u) (nv : Nm single v) (nt : Nm single tick) (bx : Cl (V single x) 0 8) (bY : Cl (V single y) 0 8) (B : Rat) (bu : Cl (V single u) 0 B) (bv : Cl (V single v) 0 B) (bt : Cl (V single tick) 0 1) (E : Int) (X : Ex single E) (hE : B + 9 ≤ p2 E) (hB : B ≤ 2000) (hs : ulp single E ≤ 1 / 100) (ε : Rat) (hε : 2 * ulp single E + 1 / 1000000 ≤ ε) :
    ∃ rx ry, DriftW W H x y u v tick rx ry ∧ InG W H rx ry ∧ (∃ K : Int, Cl (V single rx) (V single x + V single u * V single tick - (K : Rat) * (W : Rat)) ε) ∧ (∃ K : Int, Cl (V single ry) (V single y + V single v * V single tick - (K : Rat) * (H : Rat)) ε) := by
  have B0 := bu.nonneg
  have up := ulp_pos single E
  obtain ⟨dx, e1, a1⟩ := (Ap.self nu bu).mul good_single (Ap.self nt bt) E X (e' := ulp single E) (B' := B) (by grind) (by grind) (by grind)
  obtain ⟨dy, e2, a2⟩ := (Ap.self nv bv).mul good_single (Ap.self nt bt) E X (e' := ulp single E) (B' := B) (by grind) (by grind) (by grind)
  obtain ⟨sx, e3, a3⟩ := (Ap.self nx bx).add good_single a1 E X (e' := 2 * ulp single E) (B' := B + 8) (by grind) (by grind) (by grind)
  obtain ⟨sy, e4, a4⟩ := (Ap.self ny bY).add good_single a2 E X (e' := 2 * ulp single E) (B' := B + 8) (by grind) (by grind) (by grind)
  obtain ⟨⟨h1, h2⟩, h3, h4⟩ := h
  obtain ⟨rx, w1, n1, x0, x1, K, k1⟩ := wrap_near h1 h2 a3.nm (a3.abs.mono (by grind))
  obtain ⟨ry, w2, n2, y0, y1, M, k2⟩ := wrap_near h3 h4 a4.nm (a4.abs.mono (by grind))
  have c3 := a3.cl
  have c4 := a4.cl
  refine ⟨rx, ry, ⟨dx, dy, sx, sy, e1, e2, e3, e4, a3.nm, a4.nm, w1, w2⟩, ⟨n1, n2, x0, x1, y0, y1⟩, ⟨K, ?_⟩, ⟨M, ?_⟩⟩
  · unfold Cl at *; constructor <;> grind
  · unfold Cl at *; constructor <;> grind

/-! ### Pulls, with closer bounds -/
structure PHT (q m tick P h : Nat) : Prop where
  H : PH q m tick P h
  bP : Cl (V single P) 0 (801 / 100)
  bh : Cl (V single h) 0 (501 / 1000)
theorem pht_near {q m tick : Nat} (nq : Nm single q) (nm : Nm single m) (nt : Nm single tick) (bq : Cl (V single q) 0 2) (m0 : 1 / 4 ≤ V single m) (m1 : V single m ≤ 2) (bt : Cl (V single tick) 0 1) : ∃ P h, PHT q m tick P h := by
  have hm0 : V single m ≠ 0 := by grind
  have e1 : V single q * (V single m)⁻¹ * V single m = V single q := by rw [Rat.mul_assoc, Rat.inv_mul_cancel _ hm0, Rat.mul_one]
  have u3 : p2 3 = 8 := by decide +kernel
  have u0 : p2 0 = 1 := by decide +kernel
  have l5 : ulp single (3 + 2) = 1 / 524288 := by decide +kernel
  have l2 : ulp single (0 + 2) = 1 / 4194304 := by decide +kernel
  obtain ⟨P, h1, a1⟩ := (Ap.self nq bq).div good_single (Ap.self nm (B := 2) (by unfold Cl; constructor <;> grind)) (V single q * (V single m)⁻¹) 8 (1 / 4) 0 e1 (quo_bd (by grind) e1 (by unfold Cl at bq ⊢; constructor <;> grind)) m0 (by grind) (by grind) 3 (ex_single (by decide) (by decide)) (by decide) (by rw [u3]; grind) (e' := 1 / 524288) (by rw [l5]; grind)
  have e2 : V single tick / 2 * V single 1073741824 = V single tick := by rw [nm_two.2]; grind
  obtain ⟨h, h2, a2⟩ := (Ap.self nt bt).div good_single (Ap.self nm_two.1 (B := 2) (by rw [nm_two.2]; unfold Cl; constructor <;> grind)) (V single tick / 2) (1 / 2) 2 0 e2 (by unfold Cl at bt ⊢; constructor <;> grind) (by rw [nm_two.2]; grind) (by grind) (by grind) 0 (ex_single (by decide) (by decide)) (by decide) (by rw [u0]; grind) (e' := 1 / 4194304) (by rw [l2]; grind)
  exact ⟨P, h, ⟨h1, h2, a1.nm, a2.nm, a1.abs.mono (by grind), a2.abs.mono (by grind)⟩, a1.abs.mono (by grind), a2.abs.mono (by grind)⟩
theorem PH.back {q m tick P h : Nat} (H : PH q m tick P h) (nt : Nm single tick) : PH q m (Op.negFloat .f32 tick) P (Op.negFloat .f32 h) := by
  obtain ⟨n, v⟩ := neg32_V H.nh
  refine ⟨H.pull, quo_negl nt nm_two.1 (by rw [nm_two.2]; decide) H.half, H.nP, n, H.bP, ?_⟩
  rw [v]
  have := H.bh
  unfold Cl at *
  constructor <;> grind
/-- A turn, and that of the opposite tick. -/
theorem turn_pair {q m mag tick P h : Nat} (H : PH q m tick P h) (nt : Nm single tick) (nmag : Nm single mag) (bmag : Cl (V single mag) 0 1) :
    ∃ re im re' im' x y, TurnW q m mag tick re im ∧ TurnW q m mag (Op.negFloat .f32 tick) re' im' ∧ Ap single re x (1 / 4194304) 1 ∧ Ap single im y (1 / 4194304) 1 ∧ Ap single re' x (1 / 4194304) 1 ∧ Ap single im' (-y) (1 / 4194304) 1 ∧ x * x + y * y = 1 := by
  have u4 : p2 4 = 16 := by decide +kernel
  have u3 : p2 3 = 8 := by decide +kernel
  have l4 : ulp single 4 = 1 / 1048576 := by decide +kernel
  have l3 : ulp single 3 = 1 / 2097152 := by decide +kernel
  obtain ⟨x0, e1, a1⟩ := (Ap.self H.nP H.bP).mul good_single (Ap.self nmag bmag) 4 (ex_single (by decide) (by decide)) (e' := 1 / 1048576) (B' := 9) (by rw [u4]; grind) (by rw [l4]; grind) (by grind)
  obtain ⟨t, e2, a2⟩ := a1.mul good_single (Ap.self H.nh H.bh) 3 (ex_single (by decide) (by decide)) (e' := 1 / 900000) (B' := 45 / 8) (by rw [u3]; grind) (by rw [l3]; grind) (by grind)
  have bt := a2.abs.mono (e' := 6) (by grind)
  obtain ⟨re, im, x, y, hw, h1, h2, hx, hy⟩ := turn_of H e1 e2 a2.nm bt
  have e2' := mul_negr a1.nm H.nh e2
  obtain ⟨nn, vn'⟩ := neg32_V a2.nm
  obtain ⟨re', im', x', y', hw', h1', h2', hx', hy'⟩ := turn_of (H.back nt) e1 e2' nn (by rw [vn']; have := bt; unfold Cl at *; constructor <;> grind)
  rw [vn'] at hx' hy'
  have t0 := bself_nonneg (V single t)
  have hn : (1 + V single t * V single t) ≠ 0 := by grind
  have c1 : x' = x := by
    have : (x' - x) * (1 + V single t * V single t) = 0 := by grind
    rcases Rat.mul_eq_zero.1 this with h0 | h0
    · grind
    · exact absurd h0 hn
  have c2 : y' = -y := by
    have : (y' + y) * (1 + V single t * V single t) = 0 := by grind
    rcases Rat.mul_eq_zero.1 this with h0 | h0
    · grind
    · exact absurd h0 hn
  subst c1 c2
  exact ⟨re, im, re', im', x', y, hw, hw', h1, h2, h1', h2', rot_id 0 0 x' y _ hx hy⟩

/-! ### Leaps -/
structure PW (p : PD) (B : Rat) : Prop where
  na : Nm single p.a
  nb : Nm single p.b
  nc : Nm single p.c
  nd : Nm single p.d
  nq : Nm single p.q
  nm : Nm single p.m
  ba : Cl (V single p.a) 0 8
  bb : Cl (V single p.b) 0 8
  bc : Cl (V single p.c) 0 B
  bd : Cl (V single p.d) 0 B
  bq : Cl (V single p.q) 0 2
  m0 : 1 / 4 ≤ V single p.m
  m1 : V single p.m ≤ 2
def LeapW (W H : Nat) (F1 F2 : List Nat) (mag tick : Nat) (p p' : PD) : Prop := ∃ rx ry cx cy fx fy, AtW W H p.a p.b rx ry cx cy ∧ GatW W H rx ry cx cy F1 fx ∧ GatW W H rx ry cx cy F2 fy ∧ Nm single fx ∧ Nm single fy ∧ PushW p.c p.d p.q p.m fx fy mag tick p'.c p'.d ∧ Nm single p'.c ∧ Nm single p'.d ∧ DriftW W H p.a p.b p'.c p'.d tick p'.a p'.b ∧ p'.q = p.q ∧ p'.m = p.m
def BackW (W H : Nat) (F1 F2 : List Nat) (mag tick : Nat) (p p' : PD) : Prop := ∃ rx ry cx cy fx fy, DriftW W H p.a p.b p.c p.d (Op.negFloat .f32 tick) p'.a p'.b ∧ AtW W H p'.a p'.b rx ry cx cy ∧ GatW W H rx ry cx cy F1 fx ∧ GatW W H rx ry cx cy F2 fy ∧ Nm single fx ∧ Nm single fy ∧ PushW p.c p.d p.q p.m fx fy mag (Op.negFloat .f32 tick) p'.c p'.d ∧ Nm single p'.c ∧ Nm single p'.d ∧ p'.q = p.q ∧ p'.m = p.m
theorem ing_bd {W H rx ry : Nat} (h : Sides W H) (g : InG W H rx ry) : Cl (V single rx) 0 8 ∧ Cl (V single ry) 0 8 := by
  obtain ⟨⟨h1, h2⟩, h3, h4⟩ := h
  have a := side_cast h1 h2
  have b := side_cast h3 h4
  have := g.x0
  have := g.x1
  have := g.y0
  have := g.y1
  unfold Cl
  refine ⟨⟨?_, ?_⟩, ?_, ?_⟩ <;> grind
/-- Any leap: it runs, and ends in a particle with bounds. -/
theorem leap_ex {W H : Nat} {F1 F2 : List Nat} {mag tick : Nat} {p : PD} {B : Rat} (h : Sides W H) (f1 : Fld W H F1) (f2 : Fld W H F2) (nmag : Nm single mag) (bmag : Cl (V single mag) 0 1) (nt : Nm single tick) (bt : Cl (V single tick) 0 1) (P0 : PW p B) (hB : B ≤ 800) : ∃ p', LeapW W H F1 F2 mag tick p p' ∧ PW p' (2 * B + 50) := by
  have B0 := P0.bc.nonneg
  obtain ⟨rx, ry, cx, cy, A⟩ := at_near h P0.na P0.nb (P0.ba.mono (by grind)) (P0.bb.mono (by grind))
  obtain ⟨fx, g1, n1, _, b1⟩ := gat_near h A f1
  obtain ⟨fy, g2, n2, _, b2⟩ := gat_near h A f2
  obtain ⟨P, hh, PQ⟩ := pht_near P0.nq P0.nm nt P0.bq P0.m0 P0.m1 bt
  obtain ⟨tr, ti, _, _, x, y, t1, _, a1, a2, _, _, _⟩ := turn_pair PQ.H nt nmag bmag
  have u4 : p2 4 = 16 := by decide +kernel
  have l4 : ulp single 4 = 1 / 1048576 := by decide +kernel
  have u10 : p2 10 = 1024 := by decide +kernel
  have l10 : ulp single 10 = 1 / 16384 := by decide +kernel
  have u12 : p2 12 = 4096 := by decide +kernel
  have d12 : ulp double 12 = 1 / 2199023255552 := by decide +kernel
  have l12 : ulp single 12 = 1 / 4096 := by decide +kernel
  have u11 : p2 11 = 2048 := by decide +kernel
  have l11 : ulp single 11 = 1 / 8192 := by decide +kernel
  obtain ⟨c, kx, ky, KN⟩ := kick_near PQ.H n1 n2 (9 / 4) b1 b2 4 (ex_single (by decide) (by decide)) (by rw [u4]; grind)
  have q1 := b1.prod KN.bc
  have q2 := b2.prod KN.bc
  have k1 := KN.ckx
  have k2 := KN.cky
  rw [l4] at k1 k2
  have bk1 : Cl (V single kx) 0 14 := by unfold Cl at *; constructor <;> grind
  have bk2 : Cl (V single ky) 0 14 := by unfold Cl at *; constructor <;> grind
  obtain ⟨re, im, hp, nre, nim, cre, cim⟩ := push_near KN.w t1 P0.nc P0.nd KN.nkx KN.nky B 14 (B + 15) P0.bc P0.bd bk1 bk2 a1 a2 10 (ex_single (by decide) (by decide)) (by rw [u10]; grind) (by rw [l10]; grind) 12 (ex_double (by decide) (by decide)) (by rw [u12]; grind) (by rw [d12]; grind) 12 (ex_single (by decide) (by decide)) (by rw [u12]; grind) (by rw [l12]; grind) 1 (by rw [l10, d12, l12]; grind)
  have s1 := (P0.bc.add bk1)
  have s2 := (P0.bd.add bk2)
  rw [show (0 : Rat) + 0 = 0 from by grind] at s1 s2
  have m1 := s1.prod a1.bd
  have m2 := s2.prod a2.bd
  have m3 := s1.prod a2.bd
  have m4 := s2.prod a1.bd
  have bre : Cl (V single re) 0 (2 * B + 50) := by unfold Cl at *; constructor <;> grind
  have bim : Cl (V single im) 0 (2 * B + 50) := by unfold Cl at *; constructor <;> grind
  obtain ⟨sx, sy, hd, ig, _, _⟩ := drift_near (tick := tick) h P0.na P0.nb nre nim nt P0.ba P0.bb (2 * B + 50) bre bim bt 11 (ex_single (by decide) (by decide)) (by rw [u11]; grind) (by grind) (by rw [l11]; grind) _ (Rat.le_refl)
  obtain ⟨i1, i2⟩ := ing_bd h ig
  exact ⟨⟨sx, sy, re, im, p.q, p.m⟩, ⟨rx, ry, cx, cy, fx, fy, A, g1, g2, n1, n2, hp, nre, nim, hd, rfl, rfl⟩, ⟨ig.nx, ig.ny, nre, nim, P0.nq, P0.nm, i1, i2, bre, bim, P0.bq, P0.m0, P0.m1⟩⟩
end Go.Proofs.Ytdonmboidpppmaa
namespace Go.Proofs.Ytdonmboidpppmaa
open Go Go.RowKit Ieee
set_option linter.unusedSimpArgs false
set_option linter.unusedVariables false

structure BackN (W H : Nat) (F1 F2 : List Nat) (mag tick : Nat) (p p' q : PD) : Prop where
  leap : LeapW W H F1 F2 mag tick p p'
  back : BackW W H F1 F2 mag tick p' q
  P1 : PW p' 52
  Q1 : PW q 2
  kx : ∃ K : Int, Cl (V single q.a) (V single p.a - (K : Rat) * (W : Rat)) (1 / 57000)
  ky : ∃ K : Int, Cl (V single q.b) (V single p.b - (K : Rat) * (H : Rat)) (1 / 57000)
  cu : Cl (V single q.c) (V single p.c) (1 / 220)
  cv : Cl (V single q.d) (V single p.d) (1 / 220)
set_option maxHeartbeats 4000000 in
theorem leap_back {W H : Nat} {F1 F2 : List Nat} {mag tick : Nat} {p : PD} (h : Sides W H) (f1 : Fld W H F1) (f2 : Fld W H F2) (nmag : Nm single mag) (bmag : Cl (V single mag) 0 1) (nt : Nm single tick) (bt : Cl (V single tick) 0 1) (P0 : PW p 1) : ∃ p' q, BackN W H F1 F2 mag tick p p' q := by
  obtain ⟨rx, ry, cx, cy, A⟩ := at_near h P0.na P0.nb (P0.ba.mono (by grind)) (P0.bb.mono (by grind))
  obtain ⟨fx, g1, n1, I1, b1⟩ := gat_near h A f1
  obtain ⟨fy, g2, n2, I2, b2⟩ := gat_near h A f2
  obtain ⟨P, hh, PQ⟩ := pht_near P0.nq P0.nm nt P0.bq P0.m0 P0.m1 bt
  obtain ⟨tr, ti, tr', ti', x, y, t1, t2, a1, a2, a3, a4, unit⟩ := turn_pair PQ.H nt nmag bmag
  have u4 : p2 4 = 16 := by decide +kernel
  have l4 : ulp single 4 = 1 / 1048576 := by decide +kernel
  have u7 : p2 7 = 128 := by decide +kernel
  have d7 : ulp double 7 = 1 / 70368744177664 := by decide +kernel
  have u6 : p2 6 = 64 := by decide +kernel
  have l6 : ulp single 6 = 1 / 262144 := by decide +kernel
  have u8 : p2 8 = 256 := by decide +kernel
  have d8 : ulp double 8 = 1 / 35184372088832 := by decide +kernel
  have l8 : ulp single 8 = 1 / 65536 := by decide +kernel
  obtain ⟨c, kx, ky, KN⟩ := kick_near PQ.H n1 n2 (9 / 4) b1 b2 4 (ex_single (by decide) (by decide)) (by rw [u4]; grind)
  have ph := PQ.bP.prod PQ.bh
  have bc : Cl (V single c) 0 (201 / 50) := by have := KN.cc; unfold Cl at *; constructor <;> grind
  have q1 := b1.prod bc
  have q2 := b2.prod bc
  have k1 := KN.ckx
  have k2 := KN.cky
  rw [l4] at k1 k2
  have bk1 : Cl (V single kx) 0 (91 / 10) := by unfold Cl at *; constructor <;> grind
  have bk2 : Cl (V single ky) 0 (91 / 10) := by unfold Cl at *; constructor <;> grind
  obtain ⟨re, im, hp, nre, nim, cre, cim⟩ := push_near KN.w t1 P0.nc P0.nd KN.nkx KN.nky 1 (91 / 10) (102 / 10) P0.bc P0.bd bk1 bk2 a1 a2 4 (ex_single (by decide) (by decide)) (by rw [u4]; grind) (by rw [l4]; grind) 7 (ex_double (by decide) (by decide)) (by rw [u7]; grind) (by rw [d7]; grind) 6 (ex_single (by decide) (by decide)) (by rw [u6]; grind) (by rw [l6]; grind) (1 / 65000) (by rw [l4, d7, l6]; grind)
  have s1 := (P0.bc.add bk1)
  have s2 := (P0.bd.add bk2)
  rw [show (0 : Rat) + 0 = 0 from by grind] at s1 s2
  have m1 := s1.prod a1.bd
  have m2 := s2.prod a2.bd
  have m3 := s1.prod a2.bd
  have m4 := s2.prod a1.bd
  have bre : Cl (V single re) 0 30 := by clear I1 I2; unfold Cl at *; constructor <;> grind
  have bim : Cl (V single im) 0 30 := by clear I1 I2; unfold Cl at *; constructor <;> grind
  clear m1 m2 m3 m4
  obtain ⟨sx, sy, hd, ig, ⟨K1, kk1⟩, ⟨M1, mm1⟩⟩ := drift_near (tick := tick) h P0.na P0.nb nre nim nt P0.ba P0.bb 30 bre bim bt 6 (ex_single (by decide) (by decide)) (by rw [u6]; grind) (by grind) (by rw [l6]; grind) (1 / 115000) (by rw [l6]; grind)
  obtain ⟨i1, i2⟩ := ing_bd h ig
  obtain ⟨nnt, vnt⟩ := neg32_V nt
  have bnt : Cl (V single (Op.negFloat .f32 tick)) 0 1 := by rw [vnt]; unfold Cl at bt ⊢; constructor <;> grind
  obtain ⟨zx, zy, hd2, jg, ⟨K2, kk2⟩, ⟨M2, mm2⟩⟩ := drift_near (tick := Op.negFloat .f32 tick) h ig.nx ig.ny nre nim nnt i1 i2 30 bre bim bnt 6 (ex_single (by decide) (by decide)) (by rw [u6]; grind) (by grind) (by rw [l6]; grind) (1 / 115000) (by rw [l6]; grind)
  obtain ⟨j1, j2⟩ := ing_bd h jg
  rw [vnt] at kk2 mm2
  obtain ⟨rx', ry', cx', cy', A'⟩ := at_near h jg.nx jg.ny (j1.mono (by grind)) (j2.mono (by grind))
  obtain ⟨fx', g1', n1', I1', b1'⟩ := gat_near h A' f1
  obtain ⟨fy', g2', n2', I2', b2'⟩ := gat_near h A' f2
  have qa : Cl (V single zx) (V single p.a - ((K1 + K2 : Int) : Rat) * (W : Rat)) (1 / 57000) := by rw [Rat.intCast_add]; clear I1 I2 I1' I2' cre cim; unfold Cl at kk1 kk2 ⊢; constructor <;> grind
  have qb : Cl (V single zy) (V single p.b - ((M1 + M2 : Int) : Rat) * (H : Rat)) (1 / 57000) := by rw [Rat.intCast_add]; clear I1 I2 I1' I2' cre cim; unfold Cl at mm1 mm2 ⊢; constructor <;> grind
  obtain ⟨K3, k3⟩ := A.kx
  obtain ⟨K4, k4⟩ := A'.kx
  obtain ⟨M3, m3⟩ := A.ky
  obtain ⟨M4, m4⟩ := A'.ky
  have NX := near_cell (W := W) (by have := h.1; omega) A.lx A'.lx A.cx0 A.cx1 A'.cx0 A'.cx1 (K3 - (K1 + K2) - K4) (δ := 1 / 50000) (by rw [Rat.intCast_sub, Rat.intCast_sub]; clear I1 I2 I1' I2' cre cim kk1 kk2; unfold Cl at k3 k4 qa ⊢; constructor <;> grind) (by grind)
  have NY := near_cell (W := H) (by have := h.2; omega) A.ly A'.ly A.cy0 A.cy1 A'.cy0 A'.cy1 (M3 - (M1 + M2) - M4) (δ := 1 / 50000) (by rw [Rat.intCast_sub, Rat.intCast_sub]; clear I1 I2 I1' I2' cre cim mm1 mm2; unfold Cl at m3 m4 qb ⊢; constructor <;> grind) (by grind)
  have x0 := A.cx0
  have x1 := A.cx1
  have y0 := A.cy0
  have y1 := A.cy1
  have x0' := A'.cx0
  have x1' := A'.cx1
  have y0' := A'.cy0
  have y1' := A'.cy1
  have G1 := gI_move f1 NX NY (by grind) (by grind) (by grind) (by grind) (by grind) (by grind) (by grind) (by grind)
  have G2 := gI_move f2 NX NY (by grind) (by grind) (by grind) (by grind) (by grind) (by grind) (by grind) (by grind)
  have D1 : Cl (V single fx') (V single fx) (1 / 2800) := ((I1'.trans G1).trans I1.symm).mono (by grind)
  have D2 : Cl (V single fy') (V single fy) (1 / 2800) := ((I2'.trans G2).trans I2.symm).mono (by grind)
  clear G1 G2 I1 I2 I1' I2' x0 x1 y0 y1 x0' x1' y0' y1' NX NY k3 k4 m3 m4 kk1 kk2 mm1 mm2
  obtain ⟨c', kx', ky', KN'⟩ := kick_near (PQ.H.back nt) n1' n2' (9 / 4) b1' b2' 4 (ex_single (by decide) (by decide)) (by rw [u4]; grind)
  obtain ⟨_, vh⟩ := neg32_V PQ.H.nh
  have cc' := KN'.cc
  rw [vh] at cc'
  have cc : Cl (V single c' + V single c) 0 (1 / 1000000) := by have := KN.cc; clear cre cim; unfold Cl at *; constructor <;> grind
  have k1' := KN'.ckx
  have k2' := KN'.cky
  rw [l4] at k1' k2'
  have v1 := b1'.prod cc
  have v2 := b2'.prod cc
  have w1 := D1.zero_of.prod bc
  have w2 := D2.zero_of.prod bc
  have S1 : Cl (V single kx' + V single kx) 0 (1 / 690) := by clear cre cim q1 q2; unfold Cl at k1 k1' v1 w1 ⊢; constructor <;> grind
  have S2 : Cl (V single ky' + V single ky) 0 (1 / 690) := by clear cre cim q1 q2; unfold Cl at k2 k2' v2 w2 ⊢; constructor <;> grind
  have bk1' : Cl (V single kx') 0 (92 / 10) := by unfold Cl at S1 bk1 ⊢; constructor <;> grind
  have bk2' : Cl (V single ky') 0 (92 / 10) := by unfold Cl at S2 bk2 ⊢; constructor <;> grind
  clear k1' k2' v1 v2 w1 w2 q1 q2 k1 k2 cc cc' D1 D2
  obtain ⟨re', im', hp', nre', nim', cre', cim'⟩ := push_near KN'.w t2 nre nim KN'.nkx KN'.nky 30 (92 / 10) 40 bre bim bk1' bk2' a3 a4 6 (ex_single (by decide) (by decide)) (by rw [u6]; grind) (by rw [l6]; grind) 8 (ex_double (by decide) (by decide)) (by rw [u8]; grind) (by rw [d8]; grind) 8 (ex_single (by decide) (by decide)) (by rw [u8]; grind) (by rw [l8]; grind) (1 / 16000) (by rw [l6, d8, l8]; grind)
  have bx := a1.bd
  have bY := a2.bd
  generalize hα : V single p.c + V single kx = α at *
  generalize hβ : V single p.d + V single ky = β at *
  have d1 : Cl (V single re + V single kx') (α * x - β * y) (1 / 680) := by unfold Cl at cre S1 ⊢; constructor <;> grind
  have d2 : Cl (V single im + V single ky') (α * y + β * x) (1 / 680) := by unfold Cl at cim S2 ⊢; constructor <;> grind
  have e1 := d1.zero_of.prod bx
  have e2 := d2.zero_of.prod bY
  have e3 := d1.zero_of.prod bY
  have e4 := d2.zero_of.prod bx
  have i3 : (α * x - β * y) * x + (α * y + β * x) * y = α := by
    have : (α * x - β * y) * x + (α * y + β * x) * y = α * (x * x + y * y) := by grind
    rw [this, unit]; grind
  have i4 : (α * y + β * x) * x - (α * x - β * y) * y = β := by
    have : (α * y + β * x) * x - (α * x - β * y) * y = β * (x * x + y * y) := by grind
    rw [this, unit]; grind
  generalize hS : V single re + V single kx' = S at *
  generalize hT : V single im + V single ky' = T at *
  have cu : Cl (V single re') (V single p.c) (1 / 220) := by
    have z : S * x + T * y = α + ((S - (α * x - β * y)) * x + (T - (α * y + β * x)) * y) := by grind
    generalize (S - (α * x - β * y)) * x = z1 at *
    generalize (T - (α * y + β * x)) * y = z2 at *
    have z3 : S * x - T * -y = S * x + T * y := by grind
    rw [z3, z] at cre'
    clear i3 i4 e3 e4 d1 d2 cre cim cim' z z3
    unfold Cl at *
    constructor <;> grind
  have cv : Cl (V single im') (V single p.d) (1 / 220) := by
    have z : T * x - S * y = β + ((T - (α * y + β * x)) * x - (S - (α * x - β * y)) * y) := by grind
    generalize (T - (α * y + β * x)) * x = z1 at *
    generalize (S - (α * x - β * y)) * y = z2 at *
    have z3 : S * -y + T * x = T * x - S * y := by grind
    rw [z3, z] at cim'
    clear i3 i4 e1 e2 d1 d2 cre cim cre' z z3 cu
    unfold Cl at *
    constructor <;> grind
  have Pbc := P0.bc
  have Pbd := P0.bd
  refine ⟨⟨sx, sy, re, im, p.q, p.m⟩, ⟨zx, zy, re', im', p.q, p.m⟩, ⟨rx, ry, cx, cy, fx, fy, A, g1, g2, n1, n2, hp, nre, nim, hd, rfl, rfl⟩, ⟨rx', ry', cx', cy', fx', fy', hd2, A', g1', g2', n1', n2', hp', nre', nim', rfl, rfl⟩, ⟨ig.nx, ig.ny, nre, nim, P0.nq, P0.nm, i1, i2, bre.mono (by grind), bim.mono (by grind), P0.bq, P0.m0, P0.m1⟩, ⟨jg.nx, jg.ny, nre', nim', P0.nq, P0.nm, j1, j2, ?_, ?_, P0.bq, P0.m0, P0.m1⟩, ⟨_, qa⟩, ⟨_, qb⟩, cu, cv⟩
  · exact (cu.trans Pbc).mono (by grind)
  · exact (cv.trans Pbd).mono (by grind)

/-! ### Ways -/
theorem half_V {W : Nat} (h4 : 4 ≤ W) (h7 : W ≤ 7) : Nm single (wd single 3 (4 * (W : Int))) ∧ V single (wd single 3 (4 * (W : Int))) = (W : Rat) / 2 := by
  have h := V_wd (f := single) fit_single 3 (4 * (W : Int)) (by decide) (by show (4 * (W : Int)).natAbs < 16777216; omega)
  have e : p2 (-((3 : Nat) : Int)) = 1 / 8 := by decide +kernel
  refine ⟨h.1, ?_⟩
  rw [h.2, e, Rat.intCast_mul, Rat.intCast_natCast]
  rw [show ((4 : Int) : Rat) = 4 from rfl]
  grind
theorem way_near {W a b : Nat} (h4 : 4 ≤ W) (h7 : W ≤ 7) (na : Nm single a) (nb : Nm single b) (a0 : 0 ≤ V single a) (a1 : V single a < (W : Rat)) (b0 : 0 ≤ V single b) (b1 : V single b < (W : Rat)) : ∃ d r, floatBits .sub .f32 b a = some d ∧ WayW d W r ∧ Nm single r ∧ (∃ K : Int, Cl (V single r) (V single b - V single a - (K : Rat) * (W : Rat)) (1 / 500000)) ∧ Cl (V single r) 0 ((W : Rat) / 2 + 1 / 500000) := by
  obtain ⟨s4, s7⟩ := side_cast h4 h7
  obtain ⟨nT, vT⟩ := int_single W (by omega)
  obtain ⟨q1, _, _⟩ := side_facts W h4 h7
  obtain ⟨nh, vh⟩ := half_V h4 h7
  obtain ⟨nn, vn'⟩ := neg32_V nh
  have u3 : p2 3 = 8 := by decide +kernel
  have k3 : ulp single 3 = 1 / 2097152 := by decide +kernel
  have u4 : p2 4 = 16 := by decide +kernel
  have k4 : ulp single 4 = 1 / 1048576 := by decide +kernel
  obtain ⟨d, e1, nd, cd, _⟩ := sub_near good_single nb na 3 (by rw [u3]; unfold Cl; constructor <;> grind) (ex_single (by decide) (by decide))
  rw [k3] at cd
  obtain ⟨s, e2, ns, cs, _⟩ := sub_near good_single nd nT 4 (by rw [u4, vT]; unfold Cl at cd ⊢; constructor <;> grind) (ex_single (by decide) (by decide))
  obtain ⟨t, e3, nt, ct, _⟩ := add_near good_single nd nT 4 (by rw [u4, vT]; unfold Cl at cd ⊢; constructor <;> grind) (ex_single (by decide) (by decide))
  rw [k4, vT] at cs ct
  have c0 : ((0 : Int) : Rat) = 0 := rfl
  have c1 : ((1 : Int) : Rat) = 1 := rfl
  have c2 : ((-1 : Int) : Rat) = -1 := rfl
  have wc : ∀ r, _ → WayW d W r := fun r hc => ⟨_, s, t, q1, e2, e3, hc⟩
  rcases order_cases nd nh with ⟨o1, v1⟩ | ⟨o1, v1⟩ | ⟨o1, v1⟩
  · rcases order_cases nd nn with ⟨o2, v2⟩ | ⟨o2, v2⟩ | ⟨o2, v2⟩
    · refine ⟨d, t, e1, wc t (.inr (.inl ⟨o1, o2, rfl⟩)), nt, ⟨-1, ?_⟩, ?_⟩
      · rw [c2]; unfold Cl at *; constructor <;> grind
      · rw [vn', vh] at v2; unfold Cl at *; constructor <;> grind
    · refine ⟨d, d, e1, wc d (.inr (.inr (.inr (.inr (.inr (.inl ⟨o1, o2, rfl⟩)))))), nd, ⟨0, ?_⟩, ?_⟩
      · rw [c0]; unfold Cl at *; constructor <;> grind
      · rw [vn', vh] at v2; rw [vh] at v1; unfold Cl at *; constructor <;> grind
    · refine ⟨d, d, e1, wc d (.inr (.inr (.inr (.inl ⟨o1, o2, rfl⟩)))), nd, ⟨0, ?_⟩, ?_⟩
      · rw [c0]; unfold Cl at *; constructor <;> grind
      · rw [vn', vh] at v2; rw [vh] at v1; unfold Cl at *; constructor <;> grind
  · rw [vh] at v1
    rcases order_cases nd nn with ⟨o2, v2⟩ | ⟨o2, v2⟩ | ⟨o2, v2⟩
    · rw [vn', vh] at v2; grind
    · rw [vn', vh] at v2; grind
    · refine ⟨d, d, e1, wc d (.inr (.inr (.inr (.inr (.inl ⟨o1, o2, rfl⟩))))), nd, ⟨0, ?_⟩, ?_⟩
      · rw [c0]; unfold Cl at *; constructor <;> grind
      · unfold Cl at *; constructor <;> grind
  · refine ⟨d, s, e1, wc s (.inl ⟨o1, rfl⟩), ns, ⟨1, ?_⟩, ?_⟩
    · rw [c1]; unfold Cl at *; constructor <;> grind
    · rw [vh] at v1; unfold Cl at *; constructor <;> grind
/-- A way is the one that is less than half of a side. -/
theorem way_is {r t e : Rat} {W : Nat} (h4 : 4 ≤ W) (K : Int) (h : Cl r (t - (K : Rat) * (W : Rat)) e) (hr : Cl r 0 ((W : Rat) / 2 + 1 / 500000)) (ht : Cl t 0 1) (he : e ≤ 1 / 100) : Cl r t e := by
  have s4 : (4 : Rat) ≤ (W : Rat) := by have := nat_le_cast h4; simpa using this
  have hk : K ≤ -1 ∨ K = 0 ∨ 1 ≤ K := by omega
  rcases hk with hk | hk | hk
  · have : (K : Rat) ≤ ((-1 : Int) : Rat) := Rat.intCast_le_intCast.2 hk
    rw [show ((-1 : Int) : Rat) = -1 from rfl] at this
    have := Rat.mul_le_mul_of_nonneg_right this (show (0 : Rat) ≤ (W : Rat) by grind)
    unfold Cl at *
    grind
  · subst hk
    rw [show ((0 : Int) : Rat) = 0 from rfl] at h
    unfold Cl at *
    constructor <;> grind
  · have : ((1 : Int) : Rat) ≤ (K : Rat) := Rat.intCast_le_intCast.2 hk
    rw [show ((1 : Int) : Rat) = 1 from rfl] at this
    have := Rat.mul_le_mul_of_nonneg_right this (show (0 : Rat) ≤ (W : Rat) by grind)
    unfold Cl at *
    grind
/-- The way from a place to one that is so far from it, but for whole sides. -/
theorem betw_to {W H x1 y1 x2 y2 : Nat} (h : Sides W H) (n1 : Nm single x1) (n2 : Nm single y1) (n3 : Nm single x2) (n4 : Nm single y2) (b1 : Cl (V single x1) 0 8) (b2 : Cl (V single y1) 0 8) (b3 : Cl (V single x2) 0 8) (b4 : Cl (V single y2) 0 8) {tx ty e : Rat} (hx : ∃ K : Int, Cl (V single x2) (V single x1 + tx - (K : Rat) * (W : Rat)) e) (hy : ∃ K : Int, Cl (V single y2) (V single y1 + ty - (K : Rat) * (H : Rat)) e) (ht : Cl tx 0 1) (ht' : Cl ty 0 1) (he : e ≤ 1 / 200) :
    ∃ a b, BetwP W H x1 y1 x2 y2 a b ∧ Nm single a ∧ Nm single b ∧ Cl (V single a) tx (e + 1 / 200000) ∧ Cl (V single b) ty (e + 1 / 200000) := by
  have e0 : 0 ≤ e := by obtain ⟨_, q⟩ := hx; exact q.nonneg
  obtain ⟨⟨h1, h2⟩, h3, h4⟩ := h
  obtain ⟨rx1, w1, m1, p1, q1, K1, k1⟩ := wrap_near h1 h2 n1 (b1.mono (by grind))
  obtain ⟨ry1, w2, m2, p2', q2, K2, k2⟩ := wrap_near h3 h4 n2 (b2.mono (by grind))
  obtain ⟨rx2, w3, m3, p3, q3, K3, k3⟩ := wrap_near h1 h2 n3 (b3.mono (by grind))
  obtain ⟨ry2, w4, m4, p4, q4, K4, k4⟩ := wrap_near h3 h4 n4 (b4.mono (by grind))
  obtain ⟨d, a, s1, s2, na, ⟨L1', l1⟩, ba⟩ := way_near h1 h2 m1 m3 p1 q1 p3 q3
  obtain ⟨d', b, s3, s4, nb, ⟨L2', l2⟩, bb⟩ := way_near h3 h4 m2 m4 p2' q2 p4 q4
  obtain ⟨M1, o1⟩ := hx
  obtain ⟨M2, o2⟩ := hy
  refine ⟨a, b, ⟨rx1, ry1, rx2, ry2, d, d', w1, w2, w3, w4, s1, s3, s2, s4⟩, na, nb, ?_, ?_⟩
  · refine way_is h1 (M1 + K3 - K1 + L1') ?_ ba ht (by grind)
    simp only [Rat.intCast_add, Rat.intCast_sub]
    unfold Cl at k1 k3 l1 o1 ⊢
    constructor <;> grind
  · refine way_is h3 (M2 + K4 - K2 + L2') ?_ bb ht' (by grind)
    simp only [Rat.intCast_add, Rat.intCast_sub]
    unfold Cl at k2 k4 l2 o2 ⊢
    constructor <;> grind
end Go.Proofs.Ytdonmboidpppmaa
