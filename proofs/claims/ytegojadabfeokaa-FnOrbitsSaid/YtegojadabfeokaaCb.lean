/- Plain: the steps of an orbit without a field: places, speeds, how far apart. No program. -/
import Derived.Test.YtegojadabfeokaaCa
import Derived.Test.YtegojadabfeokaaBj
namespace Go.Proofs.Ytegojadabfeokaa
open Ieee Go
set_option linter.unusedVariables false

theorem push_free2 {q m mag tick u v P h t tr ti : Nat} {x y : Rat} (H : PH q m tick P h) (N : TurnN q m mag tick P h t tr ti x y) (nu : Nm single u) (nv : Nm single v) (bu : Cl (V single u) 0 2) (bv : Cl (V single v) 0 2) :
    ∃ re im, PushW u v q m 0 0 mag tick re im ∧ Nm single re ∧ Nm single im ∧ Cl (V single re) (V single u * x - V single v * y) (1 / 100000) ∧ Cl (V single im) (V single u * y + V single v * x) (1 / 100000) := by
  have z := nm_zero
  obtain ⟨c, kx, ky, K⟩ := kick_near H z.1 z.1 0 (by rw [z.2]; exact Cl.refl _ (by grind)) (by rw [z.2]; exact Cl.refl _ (by grind)) (-126) (ex_single (by decide) (by decide)) (by have := p2_pos (-126); grind)
  have ul : ulp single (-126) ≤ 1 / 1000000 := by decide +kernel
  have kx0 := K.ckx
  have ky0 := K.cky
  rw [z.2] at kx0 ky0
  have bkx : Cl (V single kx) 0 (1 / 1000000) := by unfold Cl at *; constructor <;> grind
  have bky : Cl (V single ky) 0 (1 / 1000000) := by unfold Cl at *; constructor <;> grind
  have u2 : p2 2 = 4 := by decide +kernel
  have u4 : p2 4 = 16 := by decide +kernel
  have l2 : ulp single 2 = 1 / 4194304 := by decide +kernel
  have l4 : ulp double 4 = 1 / 562949953421312 := by decide +kernel
  have s4 : ulp single 4 = 1 / 1048576 := by decide +kernel
  obtain ⟨re, im, hw, n1, n2, c1, c2⟩ := push_near K.w N.w nu nv K.nkx K.nky 2 (1 / 1000000) (9 / 4) bu bv bkx bky N.are N.aim 2 (ex_single (by decide) (by decide)) (by rw [u2]; grind) (by rw [l2]; grind) 4 (ex_double (by decide) (by decide)) (by rw [u4]; grind) (by rw [l4]; grind) 4 (ex_single (by decide) (by decide)) (by rw [u4]; grind) (by rw [s4]; grind) (1 / 200000) (by rw [l2, l4, s4]; grind)
  have p1 := bkx.prod N.are.bd
  have p2' := bky.prod N.aim.bd
  have p3 := bkx.prod N.aim.bd
  have p4 := bky.prod N.are.bd
  refine ⟨re, im, hw, n1, n2, ?_, ?_⟩ <;> unfold Cl at * <;> constructor <;> grind
/-- A step of an orbit. -/
structure OStep (q m mag tick a b u v a' b' u' v' : Nat) : Prop where
  p : PushW u v q m 0 0 mag tick u' v'
  s : ∃ su sv, floatBits .mul .f32 u' tick = some su ∧ floatBits .mul .f32 v' tick = some sv ∧ floatBits .add .f32 a su = some a' ∧ floatBits .add .f32 b sv = some b'
  na : Nm single a'
  nb : Nm single b'
  nu : Nm single u'
  nv : Nm single v'
  far : ∃ L D, (∃ r s, floatBits .sub .f32 a' a = some r ∧ floatBits .sub .f32 b' b = some s ∧ LongW r s L) ∧ floatToFloatBits .f32 L .f64 = some D ∧ Nm double D ∧ LV (V double D) ((V single u' * V single u' + V single v' * V single v') * (V single tick * V single tick)) (1 / 7000)
  nr : NR (V single u * V single u + V single v * V single v) (V single u' * V single u' + V single v' * V single v') (1 / 50000)
theorem norm_part {a b : Rat} (h : a * a + b * b ≤ 4) : Cl a 0 2 := by
  have b0 := bself_nonneg b
  unfold Cl
  constructor
  · rcases Rat.le_total (a := a) (b := 0) with h0 | h0
    · grind
    · have := sq_le (a := a) (b := 2) h0 (by grind) (by grind); grind
  · rcases Rat.le_total (a := -a) (b := 0) with h0 | h0
    · grind
    · have := sq_le (a := -a) (b := 2) h0 (by grind) (by grind); grind
theorem ostep_ex {q m mag tick u v P h t tr ti a b : Nat} {x y : Rat} (H : PH q m tick P h) (N : TurnN q m mag tick P h t tr ti x y) (ntick : Nm single tick) (btick : Cl (V single tick) 0 1) (na : Nm single a) (nb : Nm single b) (nu : Nm single u) (nv : Nm single v) (ba : Cl (V single a) 0 25) (bb : Cl (V single b) 0 25) (hn : V single u * V single u + V single v * V single v ≤ 9 / 4) (k : Rat) (hk : k ≤ 25) (ca : Cl (V single a) 0 k) (cb : Cl (V single b) 0 k) :
    ∃ a' b' u' v', OStep q m mag tick a b u v a' b' u' v' ∧ Cl (V single a') 0 (k + 21 / 10) ∧ Cl (V single b') 0 (k + 21 / 10) := by
  have bu : Cl (V single u) 0 2 := norm_part (b := V single v) (by grind)
  have bv : Cl (V single v) 0 2 := norm_part (b := V single u) (by grind)
  obtain ⟨u', v', hp, nu', nv', c1, c2⟩ := push_free2 H N nu nv bu bv
  have id := rot_id 0 0 x y _ N.hx N.hy
  have e1 : (V single u * x - V single v * y) * (V single u * x - V single v * y) + (V single u * y + V single v * x) * (V single u * y + V single v * x) = V single u * V single u + V single v * V single v := by
    have : (V single u * x - V single v * y) * (V single u * x - V single v * y) + (V single u * y + V single v * x) * (V single u * y + V single v * x) = (V single u * V single u + V single v * V single v) * (x * x + y * y) := by grind
    rw [this, id]; grind
  have nr := NR.of c1.symm c2.symm
  rw [e1] at nr
  have hn' : V single u' * V single u' + V single v' * V single v' ≤ 4 := by
    have := (nr (3 / 2) (by grind)).1 (by grind)
    grind
  have bu' : Cl (V single u') 0 2 := norm_part (b := V single v') (by grind)
  have bv' : Cl (V single v') 0 2 := norm_part (b := V single u') (by grind)
  clear c1 c2 e1 bu bv
  have u1 : p2 1 = 2 := by decide +kernel
  have u2 : p2 2 = 4 := by decide +kernel
  have u5 : p2 5 = 32 := by decide +kernel
  have s1 : ulp single 1 = 1 / 8388608 := by decide +kernel
  have s2 : ulp single 2 = 1 / 4194304 := by decide +kernel
  have s5 : ulp single 5 = 1 / 524288 := by decide +kernel
  have m1 := bu'.prod btick
  have m2 := bv'.prod btick
  obtain ⟨su, q1, n1, d1, _⟩ := mul_near good_single nu' ntick 1 (m1.mono (by rw [u1]; grind)) (ex_single (by decide) (by decide))
  obtain ⟨sv, q2, n2, d2, _⟩ := mul_near good_single nv' ntick 1 (m2.mono (by rw [u1]; grind)) (ex_single (by decide) (by decide))
  rw [s1] at d1 d2
  obtain ⟨a', q3, n3, d3, _⟩ := add_near good_single na n1 5 (by rw [u5]; unfold Cl at *; constructor <;> grind) (ex_single (by decide) (by decide))
  obtain ⟨b', q4, n4, d4, _⟩ := add_near good_single nb n2 5 (by rw [u5]; unfold Cl at *; constructor <;> grind) (ex_single (by decide) (by decide))
  rw [s5] at d3 d4
  obtain ⟨r, q5, n5, d5, _⟩ := sub_near good_single n3 na 2 (by rw [u2]; unfold Cl at *; constructor <;> grind) (ex_single (by decide) (by decide))
  obtain ⟨s, q6, n6, d6, _⟩ := sub_near good_single n4 nb 2 (by rw [u2]; unfold Cl at *; constructor <;> grind) (ex_single (by decide) (by decide))
  rw [s2] at d5 d6
  have f1 : Cl (V single r) (V single u' * V single tick) (1 / 400000) := by clear d2 d4 d6 m2; unfold Cl at *; constructor <;> grind
  have f2 : Cl (V single s) (V single v' * V single tick) (1 / 400000) := by clear d1 d3 d5 m1; unfold Cl at *; constructor <;> grind
  obtain ⟨L, hL, len⟩ := long256 n5 n6 (by clear d2 d4 d6 f2 m2; unfold Cl at *; constructor <;> grind) (by clear d1 d3 d5 f1 m1; unfold Cl at *; constructor <;> grind)
  obtain ⟨D, hD, nD, vD⟩ := widen_V len.nm
  have lv := len.lv.nr (NR.of f1 f2) (by grind) (by grind)
  have e2 : V single u' * V single tick * (V single u' * V single tick) + V single v' * V single tick * (V single v' * V single tick) = (V single u' * V single u' + V single v' * V single v') * (V single tick * V single tick) := by grind
  rw [e2] at lv
  refine ⟨a', b', u', v', ⟨hp, ⟨su, sv, q1, q2, q3, q4⟩, n3, n4, nu', nv', ⟨L, D, ⟨r, s, q5, q6, hL⟩, hD, nD, ?_⟩, nr.mono (by grind) (by grind)⟩, ?_, ?_⟩
  · rw [vD]
    exact ⟨lv.pos, fun z z0 hz => by have := lv.low z z0 hz; grind, fun z z0 hz => by have := lv.high z z0 hz; grind⟩
  · clear d2 d4 d6 f1 f2 m2; unfold Cl at *; constructor <;> grind
  · clear d1 d3 d5 f1 f2 m1; unfold Cl at *; constructor <;> grind
/-- Six steps. -/
theorem orbit_ex {q m mag tick P h t tr ti a b u v : Nat} {x y : Rat} (H : PH q m tick P h) (N : TurnN q m mag tick P h t tr ti x y) (ntick : Nm single tick) (btick : Cl (V single tick) 0 1) (na : Nm single a) (nb : Nm single b) (nu : Nm single u) (nv : Nm single v) (ba : Cl (V single a) 0 8) (bb : Cl (V single b) 0 8) (bu : Cl (V single u) 0 1) (bv : Cl (V single v) 0 1) : ∀ n : Nat, n ≤ 6 →
    ∃ A B U W : Nat → Nat, A 0 = a ∧ B 0 = b ∧ U 0 = u ∧ W 0 = v ∧ (∀ k, k < n → OStep q m mag tick (A k) (B k) (U k) (W k) (A (k + 1)) (B (k + 1)) (U (k + 1)) (W (k + 1))) ∧
      (∀ k, k ≤ n → Nm single (A k) ∧ Nm single (B k) ∧ Nm single (U k) ∧ Nm single (W k) ∧ Cl (V single (A k)) 0 (8 + 21 / 10 * (k : Rat)) ∧ Cl (V single (B k)) 0 (8 + 21 / 10 * (k : Rat)) ∧ NR (V single u * V single u + V single v * V single v) (V single (U k) * V single (U k) + V single (W k) * V single (W k)) ((k : Rat) / 50000))
  | 0, _ => ⟨fun _ => a, fun _ => b, fun _ => u, fun _ => v, rfl, rfl, rfl, rfl, fun k hk => absurd hk (by omega), fun k hk => by
      obtain rfl : k = 0 := by omega
      have z0 : ((0 : Nat) : Rat) = 0 := rfl
      exact ⟨na, nb, nu, nv, ba.mono (by rw [z0]; grind), bb.mono (by rw [z0]; grind), by rw [z0, show (0 : Rat) / 50000 = 0 from by grind]; exact NR.refl _⟩⟩
  | n + 1, hn => by
    obtain ⟨A, B, U, W, a0, b0, u0, w0, hs, hi⟩ := orbit_ex H N ntick btick na nb nu nv ba bb bu bv n (by omega)
    obtain ⟨nA, nB, nU, nW, cA, cB, nr⟩ := hi n (Nat.le_refl n)
    have k0 : (0 : Rat) ≤ (n : Rat) := Rat.natCast_nonneg
    have k5 : (n : Rat) ≤ 5 := by
      have := Rat.natCast_le_natCast.2 (show n ≤ 5 by omega)
      exact this
    have sq1 := bu.prod bu
    have sq2 := bv.prod bv
    have hR : V single (U n) * V single (U n) + V single (W n) * V single (W n) ≤ 9 / 4 := by
      have := (nr (1415 / 1000) (by grind)).1 (by unfold Cl at sq1 sq2; grind)
      have q := sq_mono (a := 1415 / 1000 + (n : Rat) / 50000) (b := 3 / 2) (by grind) (by grind)
      grind
    obtain ⟨a', b', u', v', S, ca', cb'⟩ := ostep_ex H N ntick btick nA nB nU nW (cA.mono (by grind)) (cB.mono (by grind)) hR _ (by grind) cA cB
    have fe : ∀ (F : Nat → Nat) (z : Nat), ∀ k, k ≤ n → (fun k => if k ≤ n then F k else z) k = F k := fun F z k hk => if_pos hk
    have fn : ∀ (F : Nat → Nat) (z : Nat), (fun k => if k ≤ n then F k else z) (n + 1) = z := fun F z => if_neg (by omega)
    have ec : ((n + 1 : Nat) : Rat) = (n : Rat) + 1 := Rat.natCast_add n 1
    refine ⟨fun k => if k ≤ n then A k else a', fun k => if k ≤ n then B k else b', fun k => if k ≤ n then U k else u', fun k => if k ≤ n then W k else v', (fe A a' 0 (by omega)).trans a0, (fe B b' 0 (by omega)).trans b0, (fe U u' 0 (by omega)).trans u0, (fe W v' 0 (by omega)).trans w0, fun k hk => ?_, fun k hk => ?_⟩
    · by_cases hk2 : k < n
      · rw [fe A a' k (by omega), fe B b' k (by omega), fe U u' k (by omega), fe W v' k (by omega), fe A a' (k + 1) (by omega), fe B b' (k + 1) (by omega), fe U u' (k + 1) (by omega), fe W v' (k + 1) (by omega)]
        exact hs k hk2
      · obtain rfl : k = n := by omega
        rw [fe A a' k (by omega), fe B b' k (by omega), fe U u' k (by omega), fe W v' k (by omega), fn A a', fn B b', fn U u', fn W v']
        exact S
    · by_cases hk2 : k ≤ n
      · rw [fe A a' k hk2, fe B b' k hk2, fe U u' k hk2, fe W v' k hk2]
        exact hi k hk2
      · obtain rfl : k = n + 1 := by omega
        rw [fn A a', fn B b', fn U u', fn W v', ec]
        exact ⟨S.na, S.nb, S.nu, S.nv, ca'.mono (by grind), cb'.mono (by grind), (nr.trans S.nr (by grind) (by grind)).mono (by grind) (by grind)⟩
end Go.Proofs.Ytegojadabfeokaa
