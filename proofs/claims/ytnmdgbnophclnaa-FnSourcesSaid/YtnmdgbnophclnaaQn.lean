/- Contracts: how far apart equal numbers are; gaps; a seed of the code. -/
import Derived.Test.YtnmdgbnophclnaaQm
import Derived.Test.YtnmdgbnophclnaaQl
import Derived.Test.YtnmdgbnophclnaaQh
import Derived.Test.YtnmdgbnophclnaaHh
import Derived.Test.YtnmdgbnophclnaaMb
namespace Go.Proofs.Ytnmdgbnophclnaa
open Go.RowKit Go.Sort Ieee
set_option linter.unusedSimpArgs false

theorem fsub_self (k : Nat) (a : Int) (hk : k ≤ 100) (ha : a.natAbs < 16777216) : floatBits .sub .f32 (wd single k a) (wd single k a) = some 0 := by
  have h := fsub (k := k) (a := a) (b := a) hk ha ha (by omega)
  rwa [Int.sub_self, wd_zero] at h
theorem run_csub {a b c d re im : Nat} (h1 : floatBits .sub .f32 a c = some re) (h2 : floatBits .sub .f32 b d = some im) (t : TypeId) (w : World) : (binOp .sub t (.complex .f32 a b) (.complex .f32 c d)).run Try.prog w = .ok (.complex .f32 re im) w :=
  run_complex_sum w .sub (.inr rfl) t .f32 a b c d re im (by unfold cSumBits; rw [h1, h2]; rfl)
theorem LongOf_zero (w : World) : Calls Try.prog 41 #[.complex .f32 0 0] w fun e w' => e = .returned (.float .f32 0) ∧ w' = w :=
  LongOf_any 0 0 0 0 0 0 0 0 0 (by decide +kernel) (by decide +kernel) (by decide +kernel) (by decide +kernel) (by decide +kernel) (by decide +kernel) (by decide +kernel) w

set_option maxHeartbeats 1000000 in
theorem Apart_self (k : Nat) (u v : Int) (hk : k ≤ 100) (hu : u.natAbs < 16777216) (hv : v.natAbs < 16777216) (w : World) : Calls Try.prog 36 #[.complex .f32 (wd single k u) (wd single k v), .complex .f32 (wd single k u) (wd single k v)] w fun e w' => e = .returned (.float .f64 0) ∧ w' = w := by
  have f1 := run_csub (fsub_self k u hk hu) (fsub_self k v hk hv)
  have L := keep (fun w => LongOf_zero w)
  have f2 := run_conv32 0 0 (by decide +kernel)
  generalize wd single k u = a at *
  generalize wd single k v = b at *
  go_enter Try.func36, Try.ntmps36
  go_wp2_with fail
  refine (L.out _).mono ?_
  rintro e w' ⟨rfl, rfl⟩
  go_wp2_with fail
  go_ret
  exact ⟨rfl, rfl⟩

theorem run_max64 (x y z : Nat) (h : (FloatKind.f64.format.order x y = some .lt ∧ z = y) ∨ (FloatKind.f64.format.order x y = some .gt ∧ z = x) ∨ (FloatKind.f64.format.order x y = some .eq ∧ x = z ∧ y = z)) (ts : Array TypeId) (t : TypeId) (w : World) : (Builtin.max_ ts t #[.float .f64 x, .float .f64 y]).run Try.prog w = .ok (.float .f64 z) w := by
  rcases h with ⟨h, rfl⟩ | ⟨h, rfl⟩ | ⟨h, rfl, rfl⟩ <;> simp [Builtin.max_, Builtin.max2, h]

set_option maxHeartbeats 1000000 in
theorem r8Gap_ok (A B : Int) (hA : A.natAbs < 16777216) (hB : B.natAbs < 16777216) (w : World) : Calls Try.prog 37 #[.float .f64 (wd double 16 A), .float .f64 (wd double 16 B)] w fun e w' => e = .returned (.float .f64 (wd double 16 ((A - B).natAbs : Int))) ∧ w' = w := by
  have f1 : floatBits .sub .f64 (wd double 16 A) (wd double 16 B) = some (wd double 16 (A - B)) := sub_wd (f := double) fit_double binade_le_double (by decide) (by show A.natAbs < 9007199254740992; omega) (by show B.natAbs < 9007199254740992; omega) (by show (A - B).natAbs < 9007199254740992; omega)
  have f2 : floatBits .sub .f64 (wd double 16 B) (wd double 16 A) = some (wd double 16 (B - A)) := sub_wd (f := double) fit_double binade_le_double (by decide) (by show B.natAbs < 9007199254740992; omega) (by show A.natAbs < 9007199254740992; omega) (by show (B - A).natAbs < 9007199254740992; omega)
  have o : FloatKind.f64.format.order (wd double 16 (A - B)) (wd double 16 (B - A)) = some (compare (A - B) (B - A)) := order_wd (f := double) fit_double (by decide) (by show (A - B).natAbs < 9007199254740992; omega) (by show (B - A).natAbs < 9007199254740992; omega)
  have M := run_max64 (wd double 16 (A - B)) (wd double 16 (B - A)) (wd double 16 ((A - B).natAbs : Int)) (by
    rw [o]
    rcases Int.lt_trichotomy (A - B) (B - A) with h | h | h
    · exact .inl ⟨by rw [Int.compare_eq_lt.2 h], by congr 1; omega⟩
    · exact .inr (.inr ⟨by rw [Int.compare_eq_eq.2 h], by congr 1; omega, by congr 1; omega⟩)
    · exact .inr (.inl ⟨by rw [Int.compare_eq_gt.2 h], by congr 1; omega⟩))
  have r1 := frun f1
  have r2 := frun f2
  clear f1 f2 o
  generalize wd double 16 A = a at *
  generalize wd double 16 B = b at *
  generalize wd double 16 (A - B) = c at *
  generalize wd double 16 (B - A) = d at *
  generalize wd double 16 ((A - B).natAbs : Int) = g at *
  go_enter Try.func37, Try.ntmps37
  go_wp2_with fail
  go_ret
  exact ⟨rfl, rfl⟩

theorem gapC : Nm double 4598177020985127364 ∧ (1 / 4 : Rat) ≤ V double 4598177020985127364 := ⟨⟨false, 4505401067221444, -54, by decide +kernel⟩, by decide +kernel⟩
theorem p2_m16 : p2 (-((16 : Nat) : Int)) = 1 / 65536 := by decide +kernel
theorem gap_small (d : Int) (h : d.natAbs ≤ 16384) : (FloatKind.f64.format.order (wd double 16 (d.natAbs : Int)) 4598177020985127364 == some .gt) = false := by
  obtain ⟨n1, v1⟩ := V_wd (f := double) fit_double 16 (d.natAbs : Int) (by decide) (by show (d.natAbs : Int).natAbs < 9007199254740992; omega)
  rw [show FloatKind.f64.format.order (wd double 16 (d.natAbs : Int)) 4598177020985127364 = double.order (wd double 16 (d.natAbs : Int)) 4598177020985127364 from rfl, V_gt n1 gapC.1, v1, p2_m16]
  have b := (Bd.int (n := (d.natAbs : Int)) (K := 16384) (by omega)).1
  have c := gapC.2
  have e : ((16384 : Nat) : Rat) = 16384 := by decide +kernel
  rw [e] at b
  generalize V double 4598177020985127364 = y at *
  generalize (((d.natAbs : Nat) : Int) : Rat) = x at *
  simp only [decide_eq_false_iff_not]
  grind
theorem apart_small : (FloatKind.f64.format.order 0 4562254508917369340 == some .gt) = false := by decide +kernel

set_option maxHeartbeats 1000000 in
theorem r8At_seed (a : Option Addr) (n c : Nat) (w : World) (hb : Bytes w a n) :
    Calls Try.prog 31 #[.slice a n c, .int .i64 0, .int .i64 256] w fun e w' => (∃ s : Int, Kept (0 ≤ s ∧ s ≤ 255) ∧ e = .returned (.int .i64 s)) ∧ w' = w := by
  by_cases hlt : 0 < n
  · obtain ⟨b, o, rfl, hbl, v, hv, hc⟩ := hb 0 hlt
    have hi : (0 : Int) < (n : Int) := by omega
    have hc0 : w.cell? ⟨b, o, none⟩ = some (.int .u8 (v : Int)) := by simpa using hc
    have ht : Int.tmod (v : Int) 256 = (v : Int) := by rw [Int.tmod_eq_emod_of_nonneg (by omega)]; omega
    have hw : IntKind.i64.wrap (v : Int) = (v : Int) := IntWalk.i64_in _ ⟨by omega, by omega⟩
    have HV := keep (show (0 : Int) ≤ v ∧ (v : Int) ≤ 255 by omega)
    clear hb hbl hc
    go_enter Try.func31, Try.ntmps31
    go_wp2_with fail
    go_ret
    exact ⟨⟨(v : Int), HV, by first | rfl | simp⟩, rfl⟩
  · have hi : ¬ ((0 : Int) < (n : Int)) := by omega
    have hi2 : ((n : Int) ≤ 0) := by omega
    clear hb
    go_enter Try.func31, Try.ntmps31
    go_wp2_with fail
    go_ret
    exact ⟨⟨0, keep (by omega), rfl⟩, rfl⟩
end Go.Proofs.Ytnmdgbnophclnaa
