/- Contracts: quotients by nothing, CrossSpeed, gaps and how far apart numbers are. No condition but that the chains run. -/
import Derived.Test.YtdonmboidpppmaaBc
namespace Go.Proofs.Ytdonmboidpppmaa
open Go.RowKit Go.Sort Ieee
set_option linter.unusedSimpArgs false
set_option linter.unusedVariables false

theorem notfin_cases {f : Format} {b : Nat} (h : (match f.read b with | .number .. => true | _ => false) = false) : (∃ s, f.read b = .infinity s) ∨ (∃ s t, f.read b = .nan s t) := by
  cases e : f.read b with
  | number s m i => rw [e] at h; cases h
  | infinity s => exact .inl ⟨s, rfl⟩
  | nan s t => exact .inr ⟨s, t, rfl⟩
theorem fin_nan {k : FloatKind} {b : Nat} (h : isNaN k b = true) : fin k b = false := by
  obtain ⟨s, t, e⟩ := read_nan_of h
  unfold fin
  rw [e]
theorem feq_notfin {k : FloatKind} {r s : Nat} (h : FEq k r s) (hs : fin k s = false) : fin k r = false := by
  rcases h with rfl | ⟨h1, _⟩
  · exact hs
  · exact fin_nan h1
theorem quo_zero {k : FloatKind} {p : Nat} {s : Bool} {m : Nat} {i : Int} (h : k.format.read p = .number s m i) (z : Nat) {t : Bool} {j : Int} (hz : k.format.read z = .number t 0 j) : fin k (fop .quo k p z) = false := by
  have e : k.format.div p z = if m = 0 then none else some (k.format.write (.infinity (s ^^ t))) := by
    unfold Format.div
    rw [h, hz]
    simp only [Datum.quotient, if_true]
    split <;> rfl
  have e2 : fop .quo k p z = (k.format.div p z).getD (qnan k) := rfl
  rw [e2, e]
  split
  · exact fin_nan (qnan_nan k)
  · cases k <;> cases (s ^^ t) <;> decide +kernel
theorem run_narrow_nofin (b : Nat) (h : fin .f64 b = false) (w : World) : ∃ r m, (convert 43 32 (.float .f64 b)).run Try.prog w = .ok (.float .f32 r) (w.drewN m) ∧ fin .f32 r = false := by
  have hs : (Try.prog.underlying 43).isSome = true := by rw [show Try.prog.underlying 43 = some (.float .f64) from by kernel_rfl]; rfl
  have hd : Try.prog.underlying 32 = some (.float .f32) := by kernel_rfl
  rcases notfin_cases (f := double) h with ⟨s, e⟩ | ⟨s, t, e⟩
  · refine ⟨_, 0, run_convert_float_float w _ _ .f64 .f32 b (FloatKind.f32.encode (.infinity s)) hs hd ?_, ?_⟩
    · unfold floatToFloatBits
      rw [if_neg (by decide), show FloatKind.f64.decode b = .infinity s from e]
    · cases s <;> decide +kernel
  · refine ⟨Question.cut (.nanConv .f32 b) (w.tape w.drawn (.nanConv .f32 b)), 1, ?_, fin_nan (nan_cut32 _)⟩
    obtain ⟨u, hs'⟩ := Option.isSome_iff_exists.1 hs
    cases u <;> simp [convert, run_underlying hs', run_underlying hd, Conv.floatToFloat, show FloatKind.f64.decode b = .nan s t from e, choose, Sem.run, Question.forced, World.drewN]
theorem wpList_narrow_nofin {ops : Array Oper} {Q : Exit → Act → World → Prop} {rest : List Oper} {o : Oper} {a : Act} {w : World}
    (hg : o.guard = none) (x : Operand) (hop : o.op = .convert 43 32 x)
    (X : Nat) (hx : a.eval x = .float .f64 X) (hf : fin .f64 X = false)
    (h : ∀ r m, fin .f32 r = false → wpList Try.prog ops Q rest (a.put o.dst (.float .f32 r)) (w.drewN m)) : wpList Try.prog ops Q (o :: rest) a w := by
  refine wpList_plain hg fun K hK => ?_
  obtain ⟨r, m, hrun, hr⟩ := run_narrow_nofin X hf w
  unfold Oper.wp
  simp [execOp, hop, hx, hrun, Result.andThen]
  exact hK _ _ (h r m hr)

set_option maxHeartbeats 1000000 in
set_option maxRecDepth 20000 in
theorem bQuotZ (a b c d p q z : Nat) (hz : FloatKind.f64.format.read z = .number false 0 (-1074)) (hp : ProdW a b c (Op.negFloat .f32 d) p q) (hr : PowW c d z) (np : Nm double p) (nq : Nm double q) (w : World) :
    Calls Try.prog 84 #[.complex .f32 a b, .complex .f32 c d] w fun e w' => ∃ r s m, fin .f32 r = false ∧ e = .returned (.complex .f32 r s) ∧ w' = w.drewN m := by
  have HP := keep (fun w => bprod hp w)
  have HR := keep (fun w => bpow hr w)
  have CJ := keep (fun w => zConj c d w)
  have f1 := keep (show fin .f64 (fop .quo .f64 p z) = false from by obtain ⟨s, m, i, e⟩ := np; exact quo_zero (k := .f64) e z hz)
  have f2 := keep (show fin .f64 (fop .quo .f64 q z) = false from by obtain ⟨s, m, i, e⟩ := nq; exact quo_zero (k := .f64) e z hz)
  clear hp hr np nq hz
  go_enter Try.func84, Try.ntmps84
  go_wp2_with fail
  refine (CJ.out _).mono ?_
  rintro e w' ⟨rfl, rfl⟩
  go_wp2_with fail
  refine (HP.out _).mono ?_
  rintro e w' ⟨rfl, rfl⟩
  go_wp2_with fail
  refine (HR.out _).mono ?_
  rintro e w' ⟨rfl, rfl⟩
  go_wp2_with (first
    | (refine wpList_farith (o := ⟨some 19, .binOp .quo _ _ _ _, _, _, _, _⟩) rfl _ _ _ _ _ rfl rfl .f64 p z rfl rfl ?_; intro r1 m1 hr1; have g1 := keep (feq_notfin hr1 f1.out); clear hr1)
    | (refine wpList_narrow_nofin (o := ⟨some 20, .convert _ _ _, _, _, _, _⟩) rfl _ rfl _ rfl g1.out ?_; intro r2 m2 hr2; have g2 := keep hr2; clear hr2)
    | (refine wpList_farith (o := ⟨some 23, .binOp .quo _ _ _ _, _, _, _, _⟩) rfl _ _ _ _ _ rfl rfl .f64 q z rfl rfl ?_; intro r3 m3 hr3; have g3 := keep (feq_notfin hr3 f2.out); clear hr3)
    | (refine wpList_narrow_nofin (o := ⟨some 24, .convert _ _ _, _, _, _, _⟩) rfl _ rfl _ rfl g3.out ?_; intro r4 m4 hr4))
  go_ret
  exact ⟨r2, r4, m1 + m2 + m3 + m4, g2.out, rfl, rfl⟩

theorem brun_csub {a b c d re im : Nat} (h1 : floatBits .sub .f32 a c = some re) (h2 : floatBits .sub .f32 b d = some im) (t : TypeId) (w : World) : (binOp .sub t (.complex .f32 a b) (.complex .f32 c d)).run Try.prog w = .ok (.complex .f32 re im) w :=
  run_complex_sum w .sub (.inr rfl) t .f32 a b c d re im (by unfold cSumBits; rw [h1, h2]; rfl)
theorem brun_cadd {a b c d re im : Nat} (h1 : floatBits .add .f32 a c = some re) (h2 : floatBits .add .f32 b d = some im) (t : TypeId) (w : World) : (binOp .add t (.complex .f32 a b) (.complex .f32 c d)).run Try.prog w = .ok (.complex .f32 re im) w :=
  run_complex_sum w .add (.inl rfl) t .f32 a b c d re im (by unfold cSumBits; rw [h1, h2]; rfl)
def ApartW (a b c d D : Nat) : Prop := ∃ r s L, floatBits .sub .f32 a c = some r ∧ floatBits .sub .f32 b d = some s ∧ LongW r s L ∧ floatToFloatBits .f32 L .f64 = some D
set_option maxHeartbeats 1000000 in
theorem bApart {a b c d D : Nat} (h : ApartW a b c d D) (w : World) : Calls Try.prog 18 #[.complex .f32 a b, .complex .f32 c d] w fun e w' => e = .returned (.float .f64 D) ∧ w' = w := by
  obtain ⟨r, s, L, h1, h2, h3, h4⟩ := h
  have f1 := brun_csub h1 h2
  have LO := keep (fun w => bLong h3 w)
  have f2 := zconv32 L D h4
  clear h1 h2 h3 h4
  go_enter Try.func18, Try.ntmps18
  go_wp2_with fail
  refine (LO.out _).mono ?_
  rintro e w' ⟨rfl, rfl⟩
  go_wp2_with fail
  go_ret
  exact ⟨rfl, rfl⟩
theorem brun_max (x y : Nat) (nx : Nm double x) (ny : Nm double y) (ts : Array TypeId) (t : TypeId) (w : World) : (Builtin.max_ ts t #[.float .f64 x, .float .f64 y]).run Try.prog w = .ok (.float .f64 (mx x y)) w := by
  have o := order_V nx ny
  unfold mx
  split
  · rename_i h; simp [Builtin.max_, Builtin.max2, show FloatKind.f64.format.order x y = some .lt from h]
  · rename_i h; simp [Builtin.max_, Builtin.max2, show FloatKind.f64.format.order x y = some .gt from h]
  · rename_i h1 h2
    have h : FloatKind.f64.format.order x y = some .eq := by
      show double.order x y = some .eq
      rw [o] at h1 h2 ⊢
      grind
    simp [Builtin.max_, Builtin.max2, h, FloatKind.decode]
    rfl
end Go.Proofs.Ytdonmboidpppmaa
