/- Contracts: sines of nothing, an eighth and a quarter of a turn; what is left of eighths; the number of length 1 at eighths. -/
import Derived.Test.YtegojadabfeokaaCe
import Derived.Test.YtegojadabfeokaaBc
namespace Go.Proofs.Ytegojadabfeokaa
open Go.RowKit Go.Sort Ieee
set_option linter.unusedSimpArgs false
set_option linter.unusedVariables false

/-- An eighth's words in 64 bits. -/
def e8 (n : Int) : Nat := wd double 3 n
def truncB (b : Nat) : Nat := double.write ((double.read b).integral .zero)
theorem to_int_arg0 (motive : Array Value → Sort 1) (x : Nat) (h1 : (x : Nat) → motive #[Value.float FloatKind.f64 x]) (h2 : (x : Array Value) → motive x) : Extern.MathFloor.toIntegral.match_2 motive #[.float .f64 x] h1 h2 = h1 x := rfl
theorem trunc_num {t : Nat} (n : Nm double t) : Extern.MathFloor.toIntegral "math.archTrunc" .zero #[.float .f64 t] = pure (.float .f64 (truncB t)) := by
  obtain ⟨s, m, i, h⟩ := n
  have hd : FloatKind.f64.decode t = .number s m i := h
  delta Extern.MathFloor.toIntegral
  rw [to_int_arg0]
  rw [hd]
  unfold truncB
  rw [h]
  rfl
set_option maxHeartbeats 1000000 in
set_option maxRecDepth 20000 in
theorem Trunc_of (t r : Nat) (h : Extern.MathFloor.toIntegral "math.archTrunc" .zero #[.float .f64 t] = pure (.float .f64 r)) (w : World) : Calls Try.prog 73 #[.float .f64 t] w fun e w' => e = .returned (.float .f64 r) ∧ w' = w := by
  have hr : ∀ w, (callFunc 75 #[.float .f64 t]).run Try.prog w = .ok (.value (.float .f64 r)) w := by
    intro w
    rw [run_callFunc_extern (e := Extern.MathFloor.toIntegral "math.archTrunc" .zero) Try.func75 (by kernel_rfl) (by kernel_rfl) (by kernel_rfl) (by kernel_rfl)]
    rw [h]
    rfl
  clear h
  go_enter Try.func73, Try.ntmps73
  go_wp2_with fail
  go_ret
  exact ⟨rfl, rfl⟩
/-- What is left of a number: the words. -/
structure Frac (t r v f0 f : Nat) : Prop where
  cut : Extern.MathFloor.toIntegral "math.archTrunc" .zero #[.float .f64 t] = pure (.float .f64 r)
  pick : (FloatKind.f64.format.order r 0 = some .eq ∧ v = 0) ∨ ((FloatKind.f64.format.order r 0 == some .eq) = false ∧ v = r)
  rest : floatBits .sub .f64 t v = some f0
  more : ((FloatKind.f64.format.order f0 0 == some .lt) = true ∧ floatBits .add .f64 f0 4607182418800017408 = some f) ∨ ((FloatKind.f64.format.order f0 0 == some .lt) = false ∧ f = f0)
set_option maxHeartbeats 1000000 in
set_option maxRecDepth 20000 in
theorem fraction_of {t r v f0 f : Nat} (F : Frac t r v f0 f) (w : World) : Calls Try.prog 68 #[.float .f64 t] w fun e w' => e = .returned (.float .f64 f) ∧ w' = w := by
  obtain ⟨ht, hv, hs, ha⟩ := F
  have T := keep (fun w => Trunc_of t r ht w)
  have f1 := zrun hs
  clear ht hs
  rcases hv with ⟨hv, rfl⟩ | ⟨hv, rfl⟩
  all_goals rcases ha with ⟨h1, h2⟩ | ⟨h1, rfl⟩
  all_goals
    try have f2 := zrun h2
    go_enter Try.func68, Try.ntmps68
    go_wp2_with fail
    refine (T.out _).mono ?_
    rintro e w' ⟨rfl, rfl⟩
    go_wp2_with fail
    go_ret
    exact ⟨rfl, rfl⟩

/-! ### Sines -/
def sZ (i : Int) : Nat := fop .mul .f64 (e8 i) 4618760256179416344
def sU (i : Int) : Nat := fop .mul .f64 (sZ i) (sZ i)
def sP (i : Int) : Nat → Nat
  | 0 => 4607182418800017408
  | j + 1 => fop .sub .f64 4607182418800017408 (fop .quo .f64 (fop .mul .f64 (sU i) (sP i j)) (floatOfInt .f64 (2 * (8 - (j : Int)) * (2 * (8 - (j : Int)) + 1))))
def sM (i : Int) (j : Nat) : Nat := fop .mul .f64 (sU i) (sP i j)
def sQ (i : Int) (j : Nat) : Nat := fop .quo .f64 (sM i j) (floatOfInt .f64 (2 * (8 - (j : Int)) * (2 * (8 - (j : Int)) + 1)))
def sR (i : Int) : Nat := fop .mul .f64 (sZ i) (sP i 8)
theorem sine_all : ∀ i : Fin 3, ∀ j : Fin 8, (decide (floatBits .mul .f64 (sU i.val) (sP i.val j.val) = some (sM i.val j.val)) && (decide (floatBits .quo .f64 (sM i.val j.val) (floatOfInt .f64 (2 * (8 - (j.val : Int)) * (2 * (8 - (j.val : Int)) + 1))) = some (sQ i.val j.val)) && decide (floatBits .sub .f64 4607182418800017408 (sQ i.val j.val) = some (sP i.val (j.val + 1))))) = true := by decide +kernel
theorem sine_step (i j : Nat) (hi : i < 3) (hj : j < 8) : floatBits .mul .f64 (sU i) (sP i j) = some (sM i j) ∧ floatBits .quo .f64 (sM i j) (floatOfInt .f64 (2 * (8 - (j : Int)) * (2 * (8 - (j : Int)) + 1))) = some (sQ i j) ∧ floatBits .sub .f64 4607182418800017408 (sQ i j) = some (sP i (j + 1)) := by
  have h := sine_all ⟨i, hi⟩ ⟨j, hj⟩
  simp only [Bool.and_eq_true, decide_eq_true_eq] at h
  exact h
theorem sine_ends : ∀ i : Fin 3, (decide (floatBits .mul .f64 (e8 i.val) 4618760256179416344 = some (sZ i.val)) && (decide (floatBits .mul .f64 (sZ i.val) (sZ i.val) = some (sU i.val)) && (decide (floatBits .mul .f64 (sZ i.val) (sP i.val 8) = some (sR i.val)) && (decide (FloatKind.f64.format.order (e8 i.val) 4602678819172646912 = some .lt) && (FloatKind.f64.format.order (e8 i.val) 4598175219545276416 != some .gt))))) = true := by decide +kernel
/-- Eighths from -8 to 8: what is left of them; no infinite number; their absolute value is small. -/
def tE (n : Int) : Nat := e8 n
def vE (n : Int) : Nat := if FloatKind.f64.format.order (truncB (e8 n)) 0 = some .eq then 0 else truncB (e8 n)
def gE (n : Int) : Nat := fop .sub .f64 (e8 n) (vE n)
theorem frac_all : ∀ k : Fin 17, (fin .f64 (e8 ((k.val : Int) - 8)) && (decide (floatBits .sub .f64 (e8 ((k.val : Int) - 8)) (vE ((k.val : Int) - 8)) = some (gE ((k.val : Int) - 8))) && (if (FloatKind.f64.format.order (gE ((k.val : Int) - 8)) 0 == some .lt) then decide (floatBits .add .f64 (gE ((k.val : Int) - 8)) 4607182418800017408 = some (e8 (k.val % 8 : Nat))) else decide (gE ((k.val : Int) - 8) = e8 (k.val % 8 : Nat))) && (decide (e8 ((k.val : Int) - 8) < 18446744073709551616) && decide (FloatKind.f64.format.order (e8 ((k.val : Int) - 8) % 9223372036854775808) 4841369599423283200 = some .lt)))) = true := by decide +kernel
theorem frac_ok (k : Nat) (hk : k < 17) : (∃ r v f0, Frac (e8 ((k : Int) - 8)) r v f0 (e8 ((k % 8 : Nat) : Int))) ∧ fin .f64 (e8 ((k : Int) - 8)) = true ∧ e8 ((k : Int) - 8) < 18446744073709551616 ∧ FloatKind.f64.format.order (e8 ((k : Int) - 8) % 9223372036854775808) 4841369599423283200 = some .lt := by
  have h := frac_all ⟨k, hk⟩
  simp only [Bool.and_eq_true, decide_eq_true_eq] at h
  obtain ⟨h1, ⟨⟨h2, h3⟩, h4, h5⟩⟩ := h
  refine ⟨⟨_, vE ((k : Int) - 8), gE ((k : Int) - 8), trunc_num (fin_Nm64 h1), ?_, h2, ?_⟩, h1, h4, h5⟩
  · unfold vE
    by_cases ho : FloatKind.f64.format.order (truncB (e8 ((k : Int) - 8))) 0 = some .eq
    · rw [if_pos ho]; exact .inl ⟨ho, rfl⟩
    · rw [if_neg ho]; exact .inr ⟨by simpa using ho, rfl⟩
  · cases ho : (FloatKind.f64.format.order (gE ((k : Int) - 8)) 0 == some .lt)
    · rw [ho] at h3
      simp only [Bool.false_eq_true, if_false, decide_eq_true_eq] at h3
      exact .inr ⟨rfl, h3.symm⟩
    · rw [ho] at h3
      simp only [if_true, decide_eq_true_eq] at h3
      exact .inl ⟨rfl, h3⟩
theorem frac_small (i : Nat) (hi : i < 3) : ∃ r v f0, Frac (e8 i) r v f0 (e8 i) := by
  have h := (frac_ok (i + 8) (by omega)).1
  have e1 : (((i + 8 : Nat) : Int) - 8) = (i : Int) := by omega
  have e2 : (i + 8) % 8 = i := by omega
  rw [e1, e2] at h
  exact h
set_option maxHeartbeats 2000000 in
set_option maxRecDepth 20000 in
theorem sine_ok (i : Nat) (hi : i < 3) (w : World) : Calls Try.prog 69 #[.float .f64 (e8 i)] w fun e w' => e = .returned (.float .f64 (sR i)) ∧ w' = w := by
  obtain ⟨r, v, f0, F⟩ := frac_small i hi
  have T := keep (fun w => fraction_of F w)
  have h := sine_ends ⟨i, hi⟩
  simp only [Bool.and_eq_true, decide_eq_true_eq] at h
  obtain ⟨h1, h2, h3, o1, o2⟩ := h
  have o3 : (FloatKind.f64.format.order (e8 i) 4598175219545276416 == some .gt) = false := by
    cases ho : (FloatKind.f64.format.order (e8 i) 4598175219545276416 == some .gt)
    · rfl
    · rw [bne, ho] at o2; cases o2
  have f1 := zrun h1
  have f2 := zrun h2
  have f3 := zrun h3
  have SS := keep (fun j hj => sine_step i j hi hj)
  clear h1 h2 h3 F o2
  generalize sR (i : Int) = R at *
  generalize e8 (i : Int) = E at *
  generalize sZ (i : Int) = Z at *
  generalize hU : sU (i : Int) = U at *
  go_enter Try.func69, Try.ntmps69
  go_wp2_with fail
  refine (T.out _).mono ?_
  rintro e w' ⟨rfl, hw⟩
  have hw := hw.symm
  subst hw
  go_wp2_with fail
  go_loopw [8, 7] (fun kk pp wr => ∃ j : Nat, j ≤ 8 ∧ kk = .int .i64 (8 - (j : Int)) ∧ pp = .float .f64 (sP i j) ∧ wr = w) (fun kk _ _ => (intOf kk).toNat)
  case atStart => exact ⟨0, by omega, rfl, rfl, rfl⟩
  case round =>
    obtain ⟨j, hj, rfl, rfl, hwr⟩ := hrel
    have hwr := hwr.symm
    subst hwr
    by_cases hlt : j < 8
    · obtain ⟨e1, e2, e3⟩ := SS.out j hlt
      have f1 := zrun e1
      have f2 := zrun e2
      have f3 := zrun e3
      have hge : (1 : Int) ≤ 8 - (j : Int) := by omega
      have ha : (2 * (8 - (j : Int)) * (2 * (8 - (j : Int)) + 1)) ≤ 1000 ∧ 0 ≤ (2 * (8 - (j : Int)) * (2 * (8 - (j : Int)) + 1)) := by
        obtain rfl | rfl | rfl | rfl | rfl | rfl | rfl | rfl : j = 0 ∨ j = 1 ∨ j = 2 ∨ j = 3 ∨ j = 4 ∨ j = 5 ∨ j = 6 ∨ j = 7 := by omega
        all_goals decide
      have hw1 : IntKind.i64.wrap (2 * (8 - (j : Int))) = 2 * (8 - (j : Int)) := IntWalk.i64_in _ ⟨by omega, by omega⟩
      have hw2 : IntKind.i64.wrap (2 * (8 - (j : Int)) + 1) = 2 * (8 - (j : Int)) + 1 := IntWalk.i64_in _ ⟨by omega, by omega⟩
      have hw3 : IntKind.i64.wrap (2 * (8 - (j : Int)) * (2 * (8 - (j : Int)) + 1)) = 2 * (8 - (j : Int)) * (2 * (8 - (j : Int)) + 1) := IntWalk.i64_in _ ⟨by omega, by omega⟩
      have hw4 : IntKind.i64.wrap (8 - (j : Int) - 1) = 8 - ((j + 1 : Nat) : Int) := by
        rw [IntWalk.i64_in _ ⟨by omega, by omega⟩]; omega
      have hme : (8 - ((j + 1 : Nat) : Int)).toNat < (8 - (j : Int)).toNat := by omega
      clear e1 e2 e3 ha
      generalize hk2 : (8 - ((j + 1 : Nat) : Int)) = K2 at *
      generalize hp1 : sP i (j + 1) = P1 at *
      generalize hk : (8 - (j : Int)) = K at *
      generalize sP i j = P0 at *
      generalize sM i j = M0 at *
      generalize sQ i j = Q0 at *
      go_wp2_with fail
      go_roundw
      case rel => exact ⟨j + 1, by omega, by rw [hk2], by rw [hp1], by first | trivial | rfl⟩
      case measure => simpa [intOf] using hme
    · obtain rfl : j = 8 := by omega
      generalize sP i 8 = P8 at *
      go_wp2_with fail
      go_ret
      exact ⟨rfl, rfl⟩
end Go.Proofs.Ytegojadabfeokaa
