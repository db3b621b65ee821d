/- Contracts: OrbitCentre, where something turns and where nothing does; TurnsOf. -/
import Derived.Test.YtegojadabfeokaaCh
import Derived.Test.YtegojadabfeokaaHc
import Derived.Deep.DeepCutAuto
namespace Go.Proofs.Ytegojadabfeokaa
open Go.RowKit Go.Sort Ieee
set_option linter.unusedSimpArgs false
set_option linter.unusedVariables false

set_option maxHeartbeats 2000000 in
theorem bCentre {x y u v q m mag P W e f g h cx cy : Nat} (I : PNm x y u v q m) (nmag : Nm single mag) (hP : floatBits .quo .f32 q m = some P) (mW : floatBits .mul .f32 P mag = some W) (me : MulW 0 1065353216 u v e f) (qw : QuotW e f W 0 g h) (sx : floatBits .sub .f32 x g = some cx) (sy : floatBits .sub .f32 y h = some cy) (ncx : Nm single cx) (ncy : Nm single cy) (w : World) :
    Calls Try.prog 21 #[pAgg x y u v q m, .float .f32 mag] w fun e w' => e = .returned (.tuple #[.complex .f32 cx cy, .bool true]) ∧ Below w.heap.size w w' := by
  have PU := keep (fun w => bpull x y u v hP w)
  have f1 := zrun mW
  have M1 := keep (fun w d os => Calls.regrown_of (toB (bMul me (grow (redrawn w d) os))))
  have Q1 := keep (fun w d os => Calls.regrown_of (toB (bQuot qw (grow (redrawn w d) os))))
  have L1 := keep (fun w d os => Calls.regrown_of (toB (bless x y g h cx cy sx sy (grow (redrawn w d) os))))
  have VA := keep (fun w => I.valid w)
  have IF := keep (fun w => bIsF mag nmag w)
  have FC := keep (fun w => bfiniteC cx cy ncx ncy w)
  have B0 := keep ((Below.refl w.heap.size w).alloc (Nat.le_refl _) (.cells #[.complex .f32 x y, .complex .f32 u v, .float .f32 q, .float .f32 m] 27))
  have H0 := keep (Has.made w 27 #[.complex .f32 x y, .complex .f32 u v, .float .f32 q, .float .f32 m])
  have P0 := (Has.made w 27 #[.complex .f32 x y, .complex .f32 u v, .float .f32 q, .float .f32 m]).cells
  unfold pAgg at *
  clear I nmag hP mW me qw sx sy ncx ncy
  go_enter Try.func21, Try.ntmps21
  go_wp2_with fail
  refine (PU.out _).mono ?_
  rintro e w1 ⟨rfl, hb⟩
  have H1 := keep (H0.out.after hb)
  have B1 := keep (B0.out.trans (hb.mono B0.out.size))
  clear hb H0 B0 P0 PU
  have k0 := cell_regrown (H1.out.cells 0)
  have k1 := cell_regrown (H1.out.cells 1)
  go_wp2_with fail
  refine wp_region_quiet_below (by as_aux_lemma => kernel_rfl) (by as_aux_lemma => kernel_rfl) ?_
  repeat (any_goals (go_big_quiet_step (first | (with_reducible exact M1.out _ _ _) | (with_reducible exact Q1.out _ _ _) | (with_reducible exact L1.out _ _ _))))
  refine wpQuiet_nil ?_
  intro w2 hw2
  obtain ⟨⟨d2, os2⟩, rfl⟩ := hw2
  have hb2 := below_regrown w1 d2 os2
  generalize grow (redrawn w1 d2) os2 = w2 at *
  have H2 := keep (H1.out.after hb2)
  have B2 := keep (B1.out.trans (hb2.mono B1.out.size))
  clear k0 k1 hb2 H1 B1 M1 Q1 L1
  have hc := H2.out.cells
  go_wp2_with fail
  refine (VA.out _).mono ?_
  rintro e w3 ⟨rfl, hb⟩
  have B3 := keep (B2.out.trans (hb.mono B2.out.size))
  clear hb B2 H2 hc VA
  go_wp2_with (first
    | (go_at_call 43; refine (IF.out _).mono ?_; rintro e w' ⟨rfl, m1, rfl⟩)
    | (go_at_call 33; refine (FC.out _).mono ?_; rintro e w' ⟨rfl, m2, rfl⟩))
  go_ret2
  exact ⟨rfl, Below.drewN_of B3.out _⟩

def NoFin (s : Value) (w1 wx : World) : Prop := ∃ a b m, fin .f32 a = false ∧ s = .complex .f32 a b ∧ wx = w1.drewN m
set_option maxHeartbeats 4000000 in
set_option maxRecDepth 20000 in
theorem bCentre_no {x y u v q m mag P W e f p r : Nat} (I : PNm x y u v q m) (nmag : Nm single mag) (hP : floatBits .quo .f32 q m = some P) (mW : floatBits .mul .f32 P mag = some W) (me : MulW 0 1065353216 u v e f) (hp : ProdW e f W (Op.negFloat .f32 0) p r) (np : Nm double p) (nr : Nm double r) (hr : PowW W 0 0) (w : World) :
    Calls Try.prog 21 #[pAgg x y u v q m, .float .f32 mag] w fun e w' => e = .returned (.tuple #[.complex .f32 0 0, .bool false]) ∧ Below w.heap.size w w' := by
  have PU := keep (fun w => bpull x y u v hP w)
  have f1 := zrun mW
  have M1 := keep (fun w => bMul me w)
  have Q1 := keep (fun w => bQuotZ e f W 0 p r 0 (by decide +kernel) hp hr np nr w)
  have L1 := keep (fun r s h w => bless_no x y r s I.hx h w)
  have VA := keep (fun w => I.valid w)
  have IF := keep (fun w => bIsF mag nmag w)
  have FC := keep (fun (a b : Nat) (h : fin .f32 a = false) w => bfiniteC_no a b w (by unfold finC; rw [h]; rfl))
  have B0 := keep ((Below.refl w.heap.size w).alloc (Nat.le_refl _) (.cells #[.complex .f32 x y, .complex .f32 u v, .float .f32 q, .float .f32 m] 27))
  have H0 := keep (Has.made w 27 #[.complex .f32 x y, .complex .f32 u v, .float .f32 q, .float .f32 m])
  have P0 := (Has.made w 27 #[.complex .f32 x y, .complex .f32 u v, .float .f32 q, .float .f32 m]).cells
  unfold pAgg at *
  clear I nmag hP mW me hp np nr hr
  go_enter Try.func21, Try.ntmps21
  go_wp2_with fail
  refine (PU.out _).mono ?_
  rintro e w1 ⟨rfl, hb⟩
  have H1 := keep (H0.out.after hb)
  have B1 := keep (B0.out.trans (hb.mono B0.out.size))
  clear hb H0 B0 P0 PU
  have hc := H1.out.cells
  go_wp2_with fail
  go_cut [7] (fun s7 wx => NoFin s7 w1 wx)
  case first =>
    go_region_law (first
      | (go_simp
         go_at_call 15
         refine (M1.out _).mono ?_
         rintro e w7 ⟨rfl, hw⟩
         have hw := hw.symm
         subst hw)
      | (go_simp
         go_at_call 42
         refine (Q1.out _).mono ?_
         rintro e w7 ⟨r1, s1, m1, hr1, rfl, rfl⟩
         have G1 := keep hr1
         clear hr1)
      | (go_simp
         go_at_call 51
         refine (L1.out _ _ G1.out _).mono ?_
         rintro e w7 ⟨r2, s2, m2, hr2, rfl, rfl⟩
         have G2 := keep hr2
         clear hr2))
    all_goals
      go_wp2_with fail
      go_meet
      exact ⟨_, _, _, G2.out, rfl, rfl⟩
  case rest =>
    obtain ⟨a, b, m0, hna, rfl, rfl⟩ := hcut
    have NA := keep hna
    clear hna M1 Q1 L1
    have H2 := keep (H1.out.after (Below.drewN w1.heap.size w1 m0))
    have B2 := keep (Below.drewN_of B1.out m0)
    generalize w1.drewN m0 = w2 at *
    clear hc H1 B1
    have hc := H2.out.cells
    go_wp2_with fail
    refine (VA.out _).mono ?_
    rintro e w3 ⟨rfl, hb⟩
    have B3 := keep (B2.out.trans (hb.mono B2.out.size))
    clear hb B2 H2 hc VA
    go_wp2_with (first
      | (go_at_call 43; refine (IF.out _).mono ?_; rintro e w' ⟨rfl, m1, rfl⟩)
      | (go_at_call 33; refine (FC.out _ _ NA.out _).mono ?_; rintro e w' ⟨rfl, m2, rfl⟩))
    go_ret2
    exact ⟨rfl, Below.drewN_of B3.out _⟩

set_option maxHeartbeats 2000000 in
theorem bTurns {x y u v q m mag tick re im z : Nat} (I : PNm x y u v q m) (nmag : Nm single mag) (ntick : Nm single tick) (h : TurnW q m mag tick re im) (nre : Nm single re) (nim : Nm single im) (hz : ∀ w, Calls Try.prog 24 #[.complex .f32 re im] w fun e w' => e = .returned (.float .f32 z) ∧ Below w.heap.size w w') (nz : Nm single z) (w : World) :
    Calls Try.prog 22 #[pAgg x y u v q m, .float .f32 mag, .float .f32 tick] w fun e w' => e = .returned (.tuple #[.float .f32 z, .bool true]) ∧ Below w.heap.size w w' := by
  have TU := keep (fun w => bTurnOf I nmag ntick h nre nim w)
  have AN := keep hz
  have FI := keep (fun w => bfinite z nz w)
  have B0 := keep ((Below.refl w.heap.size w).alloc (Nat.le_refl _) (.cells #[.complex .f32 x y, .complex .f32 u v, .float .f32 q, .float .f32 m] 27))
  have P0 := (Has.made w 27 #[.complex .f32 x y, .complex .f32 u v, .float .f32 q, .float .f32 m]).cells
  unfold pAgg at *
  clear I nmag ntick h nre nim hz nz
  go_enter Try.func22, Try.ntmps22
  go_wp2_with fail
  refine (TU.out _).mono ?_
  rintro e w1 ⟨rfl, hb⟩
  have B1 := keep (B0.out.trans (hb.mono B0.out.size))
  clear hb B0 P0 TU
  go_wp2_with fail
  refine (AN.out _).mono ?_
  rintro e w2 ⟨rfl, hb⟩
  have B2 := keep (B1.out.trans (hb.mono B1.out.size))
  clear hb B1 AN
  go_wp2_with fail
  refine (FI.out _).mono ?_
  rintro e w3 ⟨rfl, m, rfl⟩
  go_wp2_with fail
  go_ret2
  exact ⟨rfl, Below.drewN_of B2.out _⟩
theorem bAngle {re im : Nat} (nre : Nm single re) (nim : Nm single im) (h0 : V single re ≠ 0 ∨ V single im ≠ 0) : ∃ z, Nm single z ∧ ∀ w, Calls Try.prog 24 #[.complex .f32 re im] w fun e w' => e = .returned (.float .f32 z) ∧ Below w.heap.size w w' ∧ z < 4294967296 := by
  have z0 := nm_zero
  obtain ⟨r, nr, hr⟩ := Angle_some im re (by rw [bfin nre, bfin nim]; rfl) (by
    rintro ⟨h1, h2⟩
    have o1 := order_V nre z0.1
    have o2 := order_V nim z0.1
    rw [show single.order re 0 = some .eq from h1] at o1
    rw [show single.order im 0 = some .eq from h2] at o2
    rw [z0.2] at o1 o2
    grind)
  have hn : isNaN .f32 r = false := by
    obtain ⟨s, m, i, e⟩ := nr
    unfold isNaN
    rw [show FloatKind.f32.format = single from rfl, e]; rfl
  have key : ∀ w e w', Ang r w e w' → e = .returned (.float .f32 r) ∧ Below w.heap.size w w' ∧ r < 4294967296 := by
    rintro w e w' ⟨z, he, hl, hf, hb⟩
    obtain rfl := hf.eq hn
    exact ⟨he, hb, hl⟩
  exact ⟨r, nr, fun w => (AngleOf_of im re r hr w).mono fun e w' h => key w e w' h⟩
end Go.Proofs.Ytegojadabfeokaa
