/- Contracts: what pushes a particle, by the chains of operations of XBa: pull, turn, kick, push. No condition but that the chains run. -/
import Derived.Test.YtdonmboidpppmaaBa
import Derived.Test.YtdonmboidpppmaaZ0
import Derived.Test.YtdonmboidpppmaaHa
import Derived.Deep.RegionLaw
import Derived.Lib.QuietBelow
namespace Go.Proofs.Ytdonmboidpppmaa
open Go.RowKit Go.Sort Ieee
set_option linter.unusedSimpArgs false
set_option linter.unusedVariables false

def pAgg (x y u v q m : Nat) : Value := .agg #[.complex .f32 x y, .complex .f32 u v, .float .f32 q, .float .f32 m]
theorem toB {F : FuncId} {as0 : Array Value} {v : Value} {w : World} (h : Calls Try.prog F as0 w fun e w' => e = .returned v ∧ w' = w) : Calls Try.prog F as0 w fun e w' => e = .returned v ∧ Below w.heap.size w w' := h.mono fun _ _ ⟨he, hw⟩ => ⟨he, hw ▸ Below.refl _ _⟩
theorem bprod {a b c d p q : Nat} (h : ProdW a b c d p q) (w : World) : Calls Try.prog 83 #[.complex .f32 a b, .complex .f32 c d] w fun e w' => e = .returned (.tuple #[.float .f64 p, .float .f64 q]) ∧ w' = w := by
  obtain ⟨A, B, C, D, p1, p2', q1, q2, h1, h2, h3, h4, h5, h6, h7, h8, h9, h10⟩ := h
  exact zproduct a b c d A B C D p1 p2' p q1 q2 q h1 h2 h3 h4 h5 h6 h7 h8 h9 h10 w
theorem bpow {a b r : Nat} (h : PowW a b r) (w : World) : Calls Try.prog 49 #[.complex .f32 a b] w fun e w' => e = .returned (.float .f64 r) ∧ w' = w := by
  obtain ⟨A, B, p, q, h1, h2, h3, h4, h5⟩ := h
  exact zpower a b A B p q r h1 h2 h3 h4 h5 w
theorem bQuot {a b c d re im : Nat} (h : QuotW a b c d re im) (w : World) : Calls Try.prog 84 #[.complex .f32 a b, .complex .f32 c d] w fun e w' => e = .returned (.complex .f32 re im) ∧ w' = w := by
  obtain ⟨p, q, r, s, t, h1, h2, h3, h4, h5, h6⟩ := h
  exact zQuot a b c d p q r s t re im (fun w => bprod h1 w) (fun w => bpow h2 w) h3 h4 h5 h6 w
theorem bLong {a b L : Nat} (h : LongW a b L) (w : World) : Calls Try.prog 13 #[.complex .f32 a b] w fun e w' => e = .returned (.float .f32 L) ∧ w' = w := by
  obtain ⟨r, R, ⟨A, B, p, q, h1, h2, h3, h4, h5⟩, h6, h7⟩ := h
  exact zLong a b A B p q r R L h1 h2 h3 h4 h5 h6 h7 w
set_option maxHeartbeats 1000000 in
theorem bMul {a b c d re im : Nat} (h : MulW a b c d re im) (w : World) : Calls Try.prog 70 #[.complex .f32 a b, .complex .f32 c d] w fun e w' => e = .returned (.complex .f32 re im) ∧ w' = w := by
  obtain ⟨p, q, h1, h2, h3⟩ := h
  have HP := keep (fun w => bprod h1 w)
  have f1 := zconv64 _ _ h2
  have f2 := zconv64 _ _ h3
  clear h1 h2 h3
  go_enter Try.func70, Try.ntmps70
  go_wp2_with fail
  refine (HP.out _).mono ?_
  rintro e w' ⟨rfl, hw⟩
  have hw := hw.symm
  subst hw
  go_wp2_with fail
  go_ret
  exact ⟨rfl, rfl⟩
theorem bplus (a b c d r s : Nat) (h1 : floatBits .add .f32 a c = some r) (h2 : floatBits .add .f32 b d = some s) (w : World) : Calls Try.prog 69 #[.complex .f32 a b, .complex .f32 c d] w fun e w' => e = .returned (.complex .f32 r s) ∧ w' = w := by
  have f1 := zrun h1
  have f2 := zrun h2
  clear h1 h2
  go_enter Try.func69, Try.ntmps69
  go_wp2_with fail
  go_ret
  exact ⟨rfl, rfl⟩
theorem bless (a b c d r s : Nat) (h1 : floatBits .sub .f32 a c = some r) (h2 : floatBits .sub .f32 b d = some s) (w : World) : Calls Try.prog 76 #[.complex .f32 a b, .complex .f32 c d] w fun e w' => e = .returned (.complex .f32 r s) ∧ w' = w := by
  have f1 := zrun h1
  have f2 := zrun h2
  clear h1 h2
  go_enter Try.func76, Try.ntmps76
  go_wp2_with fail
  go_ret
  exact ⟨rfl, rfl⟩

set_option maxHeartbeats 1000000 in
theorem bpull {q m P : Nat} (x y u v : Nat) (h : floatBits .quo .f32 q m = some P) (w : World) : Calls Try.prog 82 #[pAgg x y u v q m] w fun e w' => e = .returned (.float .f32 P) ∧ Below w.heap.size w w' := by
  have f1 := zrun h
  have B0 := keep ((Below.refl w.heap.size w).alloc (Nat.le_refl _) (.cells #[.complex .f32 x y, .complex .f32 u v, .float .f32 q, .float .f32 m] 41))
  have P0 := (Has.made w 41 #[.complex .f32 x y, .complex .f32 u v, .float .f32 q, .float .f32 m]).cells
  unfold pAgg
  clear h
  go_enter Try.func82, Try.ntmps82
  go_wp2_with fail
  go_ret
  exact ⟨rfl, B0.out⟩

def two32w : Nat := 1073741824
def one32w : Nat := 1065353216
def TurnW (q m mag tick re im : Nat) : Prop := ∃ P x h t, floatBits .quo .f32 q m = some P ∧ floatBits .mul .f32 P mag = some x ∧ floatBits .quo .f32 tick 1073741824 = some h ∧ floatBits .mul .f32 x h = some t ∧ QuotW 1065353216 (Op.negFloat .f32 t) 1065353216 t re im
def KickW (q m fx fy tick kx ky : Nat) : Prop := ∃ P h c, floatBits .quo .f32 q m = some P ∧ floatBits .quo .f32 tick 1073741824 = some h ∧ floatBits .mul .f32 P h = some c ∧ floatBits .mul .f32 fx c = some kx ∧ floatBits .mul .f32 fy c = some ky
def PushW (u v q m fx fy mag tick re im : Nat) : Prop := ∃ kx ky tr ti s1 s2 a b, KickW q m fx fy tick kx ky ∧ TurnW q m mag tick tr ti ∧ floatBits .add .f32 u kx = some s1 ∧ floatBits .add .f32 v ky = some s2 ∧ MulW s1 s2 tr ti a b ∧ floatBits .add .f32 a kx = some re ∧ floatBits .add .f32 b ky = some im

set_option maxHeartbeats 2000000 in
theorem bturn {q m mag tick re im : Nat} (x y u v : Nat) (h : TurnW q m mag tick re im) (w : World) : Calls Try.prog 71 #[pAgg x y u v q m, .float .f32 mag, .float .f32 tick] w fun e w' => e = .returned (.complex .f32 re im) ∧ Below w.heap.size w w' := by
  obtain ⟨P, x0, h0, t, e1, e2, e3, e4, hq⟩ := h
  have PU := keep (fun w => bpull x y u v e1 w)
  have f2 := zrun e2
  have f3 := zrun e3
  have f4 := zrun e4
  have f5 := znegf t
  have QU := keep (fun w => bQuot hq w)
  have B0 := keep ((Below.refl w.heap.size w).alloc (Nat.le_refl _) (.cells #[.complex .f32 x y, .complex .f32 u v, .float .f32 q, .float .f32 m] 41))
  have P0 := (Has.made w 41 #[.complex .f32 x y, .complex .f32 u v, .float .f32 q, .float .f32 m]).cells
  unfold pAgg at *
  clear e1 e2 e3 e4 hq
  go_enter Try.func71, Try.ntmps71
  go_wp2_with fail
  refine (PU.out _).mono ?_
  rintro e w1 ⟨rfl, hb⟩
  have B1 := keep (B0.out.trans (hb.mono B0.out.size))
  clear hb B0 P0
  go_wp2_with fail
  refine (QU.out _).mono ?_
  rintro e w' ⟨rfl, hw⟩
  have hw := hw.symm
  subst hw
  go_wp2_with fail
  go_ret
  exact ⟨rfl, B1.out⟩

set_option maxHeartbeats 2000000 in
theorem bkick {q m fx fy tick kx ky : Nat} (x y u v : Nat) (h : KickW q m fx fy tick kx ky) (w : World) : Calls Try.prog 68 #[pAgg x y u v q m, .complex .f32 fx fy, .float .f32 tick] w fun e w' => e = .returned (.complex .f32 kx ky) ∧ Below w.heap.size w w' := by
  obtain ⟨P, h0, c, e1, e2, e3, e4, e5⟩ := h
  have PU := keep (fun w => bpull x y u v e1 w)
  have f2 := zrun e2
  have f3 := zrun e3
  have SC := keep (fun w => zScale fx fy c kx ky e4 e5 w)
  have B0 := keep ((Below.refl w.heap.size w).alloc (Nat.le_refl _) (.cells #[.complex .f32 x y, .complex .f32 u v, .float .f32 q, .float .f32 m] 41))
  have P0 := (Has.made w 41 #[.complex .f32 x y, .complex .f32 u v, .float .f32 q, .float .f32 m]).cells
  unfold pAgg at *
  clear e1 e2 e3 e4 e5
  go_enter Try.func68, Try.ntmps68
  go_wp2_with fail
  refine (PU.out _).mono ?_
  rintro e w1 ⟨rfl, hb⟩
  have B1 := keep (B0.out.trans (hb.mono B0.out.size))
  clear hb B0 P0
  go_wp2_with fail
  refine (SC.out _).mono ?_
  rintro e w' ⟨rfl, hw⟩
  have hw := hw.symm
  subst hw
  go_wp2_with fail
  go_ret
  exact ⟨rfl, B1.out⟩

set_option maxHeartbeats 4000000 in
theorem bpush {u v q m fx fy mag tick re im : Nat} (x y : Nat) (h : PushW u v q m fx fy mag tick re im) (w : World) : Calls Try.prog 45 #[pAgg x y u v q m, .complex .f32 fx fy, .float .f32 mag, .float .f32 tick] w fun e w' => e = .returned (.complex .f32 re im) ∧ Below w.heap.size w w' := by
  obtain ⟨kx, ky, tr, ti, s1, s2, a, b, hk, ht, e1, e2, hm, e3, e4⟩ := h
  have KI := keep (fun w => bkick x y u v hk w)
  have TU := keep (fun w d os => Calls.regrown_of (bturn x y u v ht (grow (redrawn w d) os)))
  have PL1 := keep (fun w d os => Calls.regrown_of (toB (bplus u v kx ky s1 s2 e1 e2 (grow (redrawn w d) os))))
  have PL2 := keep (fun w d os => Calls.regrown_of (toB (bplus a b kx ky re im e3 e4 (grow (redrawn w d) os))))
  have MU := keep (fun w d os => Calls.regrown_of (toB (bMul hm (grow (redrawn w d) os))))
  have B0 := keep ((Below.refl w.heap.size w).alloc (Nat.le_refl _) (.cells #[.complex .f32 x y, .complex .f32 u v, .float .f32 q, .float .f32 m] 41))
  have H0 := keep (Has.made w 41 #[.complex .f32 x y, .complex .f32 u v, .float .f32 q, .float .f32 m])
  have P0 := (Has.made w 41 #[.complex .f32 x y, .complex .f32 u v, .float .f32 q, .float .f32 m]).cells
  unfold pAgg at *
  clear hk ht e1 e2 hm e3 e4
  go_enter Try.func45, Try.ntmps45
  go_wp2_with fail
  refine (KI.out _).mono ?_
  rintro e w1 ⟨rfl, hb⟩
  have p1 := H0.out.after hb
  have k0 := cell_regrown (p1.cells 0)
  have k1 := cell_regrown (p1.cells 1)
  have k2 := cell_regrown (p1.cells 2)
  have k3 := cell_regrown (p1.cells 3)
  have B1 := keep (B0.out.trans (hb.mono B0.out.size))
  clear hb B0 P0 KI p1
  go_wp2_with fail
  refine wp_region_quiet_below (by as_aux_lemma => kernel_rfl) (by as_aux_lemma => kernel_rfl) ?_
  repeat (any_goals (go_big_quiet_step (first | (with_reducible exact PL1.out _ _ _) | (with_reducible exact TU.out _ _ _) | (with_reducible exact MU.out _ _ _) | (with_reducible exact PL2.out _ _ _))))
  refine wpQuiet_nil ?_
  intro w2 hw2
  obtain ⟨⟨d2, os2⟩, rfl⟩ := hw2
  have hb2 := below_regrown w1 d2 os2
  generalize grow (redrawn w1 d2) os2 = w2 at *
  clear k0 k1 k2 k3
  go_wp2_with fail
  go_ret
  exact ⟨rfl, B1.out.trans (hb2.mono B1.out.size)⟩
end Go.Proofs.Ytdonmboidpppmaa
