/- Contracts: numbers of fields at places; sums of products of fields; equal fields. -/
import Derived.Test.YtnmdgbnophclnaaMa
namespace Go.Proofs.Ytnmdgbnophclnaa
open Go.RowKit Go.Sort Ieee
set_option linter.unusedSimpArgs false

/-- The sum of the products of two fields. -/
def dotF (a b : List Int) : Int := (List.zipWith (· * ·) a b).sum
theorem dotF_take (a b : List Int) (i : Nat) (h1 : i < a.length) (h2 : i < b.length) : dotF (a.take (i + 1)) (b.take (i + 1)) = dotF (a.take i) (b.take i) + a[i] * b[i] := by
  unfold dotF
  rw [List.take_succ_eq_append_getElem h1, List.take_succ_eq_append_getElem h2, List.zipWith_append (by rw [List.length_take, List.length_take]; omega), List.sum_append]
  simp
theorem dotF_bound (M K : Nat) : ∀ (a b : List Int), Small a M → Small b K → (dotF a b).natAbs ≤ M * K * a.length
  | [], b, _, _ => by simp [dotF]
  | x :: a, [], _, _ => by simp [dotF]
  | x :: a, y :: b, h1, h2 => by
    have ih := dotF_bound M K a b (fun n hn => h1 n (List.mem_cons_of_mem _ hn)) (fun n hn => h2 n (List.mem_cons_of_mem _ hn))
    have hm := natAbs_mul_le (h1 x (List.mem_cons_self ..)) (h2 y (List.mem_cons_self ..))
    unfold dotF at *
    rw [List.zipWith_cons_cons, List.sum_cons, List.length_cons, Nat.mul_succ]
    omega

/-- A number in a wider word. -/
theorem widen_wd (k : Nat) (a : Int) (hk : k ≤ 90) (ha : a.natAbs < 16777216) : floatToFloatBits .f32 (wd single k a) .f64 = some (wd double k a) := by
  obtain ⟨m, i, hr, hs⟩ := wd_read (f := single) fit_single binade_le_single (k := k) (a := a) (by show k + 23 ≤ 149; omega) (by show a.natAbs < 16777216; omega)
  have hw : double.nearest (decide (a < 0)) m i = wd double k a := by
    by_cases h0 : a = 0
    · have hm := hs.mag_zero.2 h0
      subst h0
      rw [hm, wd_zero]
      exact nearest_zero double i
    · exact Is.unique (f := double) binade_le_double (write_is double fit_double hs (by show k + 52 ≤ 149; omega) (by show a.natAbs < 9007199254740992; omega)) (nearest_lt _ _ _ _) h0
  obtain ⟨s2, m2, i2, h2, _⟩ := wd_is double fit_double k a (by show k + 52 ≤ 149; omega) (by show a.natAbs < 9007199254740992; omega)
  unfold floatToFloatBits
  rw [if_neg (by decide)]
  rw [show FloatKind.f32.decode (wd single k a) = .number (decide (a < 0)) m i from hr]
  show (if (FloatKind.f64.decode (double.nearest (decide (a < 0)) m i)).isInfinity = true then none else some (double.nearest (decide (a < 0)) m i)) = _
  rw [hw, show FloatKind.f64.decode (wd double k a) = .number s2 m2 i2 from h2]
  rfl
theorem dot_step (k l : Nat) (hk : k ≤ 30) (hl : l ≤ 30) (S a b : Int) (hS : S.natAbs < 16777216) (ha : a.natAbs ≤ 100) (hb : b.natAbs ≤ 100000) : ∃ r, floatBits .mul .f64 (wd double k a) (wd double l b) = some r ∧ floatBits .add .f64 (wd double (k + l) S) r = some (wd double (k + l) (S + a * b)) := by
  have hm : (a * b).natAbs ≤ 100 * 100000 := natAbs_mul_le ha hb
  obtain ⟨r, e, hr, hrl⟩ := mul_is (f := double) fit_double binade_le_double (k := k) (l := l) (a := a) (b := b) (by show k + 52 ≤ 149; omega) (by show l + 52 ≤ 149; omega) (by show k + l + 52 ≤ 149; omega) (by show a.natAbs < 9007199254740992; omega) (by show b.natAbs < 9007199254740992; omega) (by show (a * b).natAbs < 9007199254740992; omega)
  exact ⟨r, e, add_is (f := double) fit_double binade_le_double hr hrl (by show k + l + 52 ≤ 149; omega) (by show S.natAbs < 9007199254740992; omega) (by show (a * b).natAbs < 9007199254740992; omega) (by show (S + a * b).natAbs < 9007199254740992; omega)⟩

end Go.Proofs.Ytnmdgbnophclnaa
