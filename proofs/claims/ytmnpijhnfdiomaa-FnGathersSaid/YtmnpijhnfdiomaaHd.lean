/- Contracts: walls, one particle thrown back. -/
import Derived.Test.YtmnpijhnfdiomaaHc
namespace Go.Proofs.Ytmnpijhnfdiomaa
open Go.RowKit Go.Sort Ieee
set_option linter.unusedSimpArgs false

theorem run_negf (a : Nat) (w : World) : (Op.unary .neg (.float .f32 a)).run Try.prog w = .ok (.float .f32 (Op.negFloat .f32 a)) w := rfl

/-- The first speed of one that is thrown back, keeping a half. -/
def sp (u : Int) : Nat := (floatBits .mul .f32 (Op.negFloat .f32 (wd single 3 u)) 1056964608).getD 0
theorem sp_all : ∀ n : Fin 17, floatBits .mul .f32 (Op.negFloat .f32 (wd single 3 ((n.val : Int) - 8))) 1056964608 = some (sp ((n.val : Int) - 8)) ∧ sp ((n.val : Int) - 8) < 4294967296 ∧ fin .f32 (sp ((n.val : Int) - 8)) = true ∧ FloatKind.f32.format.order (sp ((n.val : Int) - 8)) (sp ((n.val : Int) - 8)) = some .eq ∧ ∃ r, floatBits .mul .f32 3204448256 (wd single 3 ((n.val : Int) - 8)) = some r ∧ FloatKind.f32.format.order (sp ((n.val : Int) - 8)) r = some .eq := by
  have key : ∀ n : Fin 17, (decide (floatBits .mul .f32 (Op.negFloat .f32 (wd single 3 ((n.val : Int) - 8))) 1056964608 = some (sp ((n.val : Int) - 8))) && decide (sp ((n.val : Int) - 8) < 4294967296) && fin .f32 (sp ((n.val : Int) - 8)) && decide (FloatKind.f32.format.order (sp ((n.val : Int) - 8)) (sp ((n.val : Int) - 8)) = some .eq) && (match floatBits .mul .f32 3204448256 (wd single 3 ((n.val : Int) - 8)) with | some r => decide (FloatKind.f32.format.order (sp ((n.val : Int) - 8)) r = some .eq) | none => false)) = true := by decide +kernel
  intro n
  have h := key n
  simp only [Bool.and_eq_true, decide_eq_true_eq] at h
  obtain ⟨⟨⟨⟨h1, h2⟩, h3⟩, h4⟩, h5⟩ := h
  refine ⟨h1, h2, h3, h4, ?_⟩
  split at h5
  · next r hr => exact ⟨r, hr, by simpa using h5⟩
  · cases h5
theorem sp_of (u : Int) (h0 : -8 ≤ u) (h1 : u ≤ 8) : floatBits .mul .f32 (Op.negFloat .f32 (wd single 3 u)) 1056964608 = some (sp u) ∧ sp u < 4294967296 ∧ fin .f32 (sp u) = true ∧ FloatKind.f32.format.order (sp u) (sp u) = some .eq ∧ ∃ r, floatBits .mul .f32 3204448256 (wd single 3 u) = some r ∧ FloatKind.f32.format.order (sp u) r = some .eq := by
  have h := sp_all ⟨(u + 8).toNat, by omega⟩
  have e : (((u + 8).toNat : Nat) : Int) - 8 = u := by omega
  simp only [e] at h
  exact h
theorem num_sp (u : Int) (h0 : -8 ≤ u) (h1 : u ≤ 8) : Num (sp u) := ⟨by have := (sp_of u h0 h1).2.1; omega, (sp_of u h0 h1).2.2.2.1⟩

def reflX (L H : Int) (p : GP) : Int := if p.x < L then 2 * L - p.x else if H < p.x then 2 * H - p.x else p.x
def isOut (L H : Int) (p : GP) : Bool := decide (p.x < L) || decide (H < p.x)
def reflS (L H : Int) (p : GP) : Nat := if isOut L H p then sp p.u else wd single 3 p.u
def reflD (L H : Int) (p : GP) : PD := ⟨wd single 3 (reflX L H p), wd single 3 p.y, reflS L H p, wd single 3 p.v, wd single 1 p.q, wd single 2 p.m⟩

def Walls (L H : Int) : Prop := 0 ≤ L ∧ L < H ∧ H ≤ 100

theorem reflX_bound {L H : Int} (h : Walls L H) {p : GP} (hp : p.ok) : -100 ≤ reflX L H p ∧ reflX L H p ≤ 200 := by
  obtain ⟨h0, h1, h2⟩ := h
  obtain ⟨⟨p0, p1⟩, _⟩ := hp
  unfold reflX
  split
  · omega
  · split <;> omega
theorem reflS_num {L H : Int} {p : GP} (hp : p.ok) : Num (reflS L H p) ∧ fin .f32 (reflS L H p) = true := by
  obtain ⟨_, _, ⟨p0, p1⟩, _⟩ := hp
  unfold reflS
  split
  · exact ⟨num_sp p.u p0 p1, (sp_of p.u p0 p1).2.2.1⟩
  · exact ⟨num_wd 3 p.u (by omega) (by omega), fin_wd 3 p.u (by omega) (by omega)⟩
theorem reflD_ok {L H : Int} (h : Walls L H) {p : GP} (hp : p.ok) : (reflD L H p).ok = true := by
  have b := reflX_bound h hp
  have s := (reflS_num (L := L) (H := H) hp).2
  obtain ⟨h1, h2, h3, h4, h5, h6⟩ := hp
  unfold PD.ok validP finC reflD
  simp only
  rw [fin_wd 3 (reflX L H p) (by omega) (by omega), fin_wd 3 p.y (by omega) (by omega), s, fin_wd 3 p.v (by omega) (by omega), fin_wd 1 p.q (by omega) (by omega), fin_wd 2 p.m (by omega) (by omega), gtr_mass p.m (by omega) (by omega)]
  rfl
theorem reflD_num {L H : Int} (h : Walls L H) {p : GP} (hp : p.ok) : (reflD L H p).num := by
  have b := reflX_bound h hp
  have s := (reflS_num (L := L) (H := H) hp).1
  obtain ⟨h1, h2, h3, h4, h5, h6⟩ := hp
  exact ⟨num_wd 3 _ (by omega) (by omega), num_wd 3 _ (by omega) (by omega), s, num_wd 3 _ (by omega) (by omega), num_wd 1 _ (by omega) (by omega), num_wd 2 _ (by omega) (by omega)⟩
theorem GP.num {p : GP} (hp : p.ok) : p.pd.num := by
  obtain ⟨h1, h2, h3, h4, h5, h6⟩ := hp
  exact ⟨num_wd 3 _ (by omega) (by omega), num_wd 3 _ (by omega) (by omega), num_wd 3 _ (by omega) (by omega), num_wd 3 _ (by omega) (by omega), num_wd 1 _ (by omega) (by omega), num_wd 2 _ (by omega) (by omega)⟩

set_option maxHeartbeats 1000000 in
theorem areWalls_ok (L H : Int) (h : Walls L H) (w : World) : Calls Try.prog 55 #[.float .f32 (wd single 3 L), .float .f32 (wd single 3 H)] w fun e w' => e = .returned (.bool true) ∧ Below w.heap.size w w' := by
  obtain ⟨h0, h1, h2⟩ := h
  have hA := areFinite_two (wd single 3 L) (wd single 3 H) w.heap.size 2
  rw [fin_wd 3 L (by omega) (by omega), fin_wd 3 H (by omega) (by omega)] at hA
  have HA := keep hA
  have ho := forder (k := 3) (a := L) (b := H) (by omega) (by omega) (by omega)
  rw [Int.compare_eq_lt.2 h1] at ho
  clear hA h0 h1 h2
  go_enter Try.func55, Try.ntmps55
  go_wp2_with (go_at_call 81; refine (HA.out _ (by go_simp) (by go_simp)).mono ?_; rintro e w' ⟨rfl, m', rfl⟩)
  go_ret
  exact ⟨rfl, by refine Below.drewN_of ?_ _; go_grown⟩

theorem two_word : (1073741824 : Nat) = wd single 0 2 := by decide +kernel

set_option maxHeartbeats 2000000 in
set_option maxRecDepth 20000 in
theorem reflected_ok (L H : Int) (h : Walls L H) (p : GP) (hp : p.ok) (w : World) : Calls Try.prog 58 #[p.agg, .float .f32 (wd single 3 L), .float .f32 (wd single 3 H), .float .f32 1056964608] w fun e w' => e = .returned (.tuple #[(reflD L H p).agg, .bool (isOut L H p)]) ∧ Below w.heap.size w w' := by
  obtain ⟨h0, h1, h2⟩ := h
  obtain ⟨⟨x0, x1⟩, _, ⟨u0, u1⟩, _⟩ := hp
  have oL := forder (k := 3) (a := p.x) (b := L) (by omega) (by omega) (by omega)
  have oH := forder (k := 3) (a := p.x) (b := H) (by omega) (by omega) (by omega)
  have fs := frun (sp_of p.u u0 u1).1
  have fn := run_negf (wd single 3 p.u)
  have mL : floatBits .mul .f32 1073741824 (wd single 3 L) = some (wd single 3 (2 * L)) := by
    rw [two_word]; exact fmul (k := 0) (l := 3) (a := 2) (b := L) (by omega) (by omega) (by omega) (by omega) (by omega) (by omega) (by omega)
  have mH : floatBits .mul .f32 1073741824 (wd single 3 H) = some (wd single 3 (2 * H)) := by
    rw [two_word]; exact fmul (k := 0) (l := 3) (a := 2) (b := H) (by omega) (by omega) (by omega) (by omega) (by omega) (by omega) (by omega)
  have fL := frun mL
  have fH := frun mH
  have gL := frun (fsub (k := 3) (a := 2 * L) (b := p.x) (by omega) (by omega) (by omega) (by omega))
  have gH := frun (fsub (k := 3) (a := 2 * H) (b := p.x) (by omega) (by omega) (by omega) (by omega))
  unfold GP.agg PD.agg reflD reflX reflS isOut
  by_cases hL : p.x < L
  · rw [Int.compare_eq_lt.2 hL] at oL
    have e1 : decide (p.x < L) = true := decide_eq_true hL
    rw [if_pos hL, e1]
    simp only [Bool.true_or, if_true]
    clear mL mH gH fH oH hL e1 h0 h1 h2 x0 x1 u0 u1
    go_enter Try.func58, Try.ntmps58
    go_wp2_with fail
    exact bodyPost_ret (by simp [results, Try.results58, go_sem]) rfl ⟨rfl, by go_grown⟩
  · by_cases hH : H < p.x
    · have c1 : FloatKind.f32.format.order (wd single 3 p.x) (wd single 3 L) = some .gt := by rw [oL, Int.compare_eq_gt.2 (by omega)]
      rw [Int.compare_eq_gt.2 hH] at oH
      have e1 : decide (p.x < L) = false := decide_eq_false hL
      have e2 : decide (H < p.x) = true := decide_eq_true hH
      rw [if_neg hL, if_pos hH, e1, e2]
      simp only [Bool.or_true, if_true]
      clear mL mH gL fL oL hL e1 e2 h0 h1 h2 x0 x1 u0 u1
      go_enter Try.func58, Try.ntmps58
      go_wp2_with fail
      exact bodyPost_ret (by simp [results, Try.results58, go_sem]) rfl ⟨rfl, by go_grown⟩
    · rw [if_neg hL, if_neg hH]
      have e1 : decide (p.x < L) = false := decide_eq_false hL
      have e2 : decide (H < p.x) = false := decide_eq_false hH
      rw [e1, e2]
      simp only [Bool.or_false, Bool.false_eq_true, if_false]
      have c1 : FloatKind.f32.format.order (wd single 3 p.x) (wd single 3 L) = some .gt ∨ FloatKind.f32.format.order (wd single 3 p.x) (wd single 3 L) = some .eq := by
        rw [oL]
        rcases Int.lt_or_eq_of_le (show L ≤ p.x by omega) with h | h
        · exact .inl (by rw [Int.compare_eq_gt.2 h])
        · exact .inr (by rw [Int.compare_eq_eq.2 h.symm])
      have c2 : FloatKind.f32.format.order (wd single 3 p.x) (wd single 3 H) = some .lt ∨ FloatKind.f32.format.order (wd single 3 p.x) (wd single 3 H) = some .eq := by
        rw [oH]
        rcases Int.lt_or_eq_of_le (show p.x ≤ H by omega) with h | h
        · exact .inl (by rw [Int.compare_eq_lt.2 h])
        · exact .inr (by rw [Int.compare_eq_eq.2 h])
      clear mL mH gL fL gH fH oL oH hL hH e1 e2 h0 h1 h2 x0 x1 u0 u1 fs fn
      rcases c1 with c1 | c1 <;> rcases c2 with c2 | c2
      all_goals
        go_enter Try.func58, Try.ntmps58
        go_wp2_with fail
        exact bodyPost_ret (by simp [results, Try.results58, go_sem]) rfl ⟨rfl, by go_grown⟩

theorem reflD_valid {L H : Int} (h : Walls L H) {p : GP} (hp : p.ok) (w : World) : Calls Try.prog 59 #[(reflD L H p).agg] w fun e w' => e = .returned (.bool true) ∧ Below w.heap.size w w' := by
  have hv := ValidParticle_any (reflD L H p).a (reflD L H p).b (reflD L H p).c (reflD L H p).d (reflD L H p).q (reflD L H p).m w
  rw [show validP (reflD L H p).a (reflD L H p).b (reflD L H p).c (reflD L H p).d (reflD L H p).q (reflD L H p).m = true from reflD_ok h hp] at hv
  exact hv
theorem GP.valid {p : GP} (hp : p.ok) (w : World) : Calls Try.prog 59 #[p.agg] w fun e w' => e = .returned (.bool true) ∧ Below w.heap.size w w' := by
  have hv := ValidParticle_any p.pd.a p.pd.b p.pd.c p.pd.d p.pd.q p.pd.m w
  rw [show validP p.pd.a p.pd.b p.pd.c p.pd.d p.pd.q p.pd.m = true from GP.pd_ok p hp] at hv
  exact hv
theorem fin_half : fin .f32 1056964608 = true := by decide +kernel

set_option maxHeartbeats 2000000 in
set_option maxRecDepth 20000 in
theorem ReflectAt_ok (L H : Int) (h : Walls L H) (p : GP) (hp : p.ok) (w : World) : Calls Try.prog 21 #[p.agg, .float .f32 (wd single 3 L), .float .f32 (wd single 3 H), .float .f32 1056964608] w fun e w' => e = .returned (.tuple #[(reflD L H p).agg, .bool true]) ∧ Below w.heap.size w w' := by
  have A := keep (fun w => GP.valid hp w)
  have B := keep (fun w => areWalls_ok L H h w)
  have C := IsFinite32 1056964608
  rw [fin_half] at C
  have C := keep C
  have D := keep (fun w => reflected_ok L H h p hp w)
  have E := keep (fun w => reflD_valid h hp w)
  have P := keep (Has.made w 50 #[.complex .f32 (wd single 3 p.x) (wd single 3 p.y), .complex .f32 (wd single 3 p.u) (wd single 3 p.v), .float .f32 (wd single 1 p.q), .float .f32 (wd single 2 p.m)])
  clear hp h
  generalize reflD L H p = r at *
  generalize isOut L H p = b at *
  unfold GP.agg PD.agg at *
  go_enter Try.func21, Try.ntmps21
  go_wp2_with fail
  refine (A.out _).mono ?_
  rintro e w1 ⟨rfl, hb1⟩
  have p1 := (P.out.beside (.cells #[.complex .f32 0 0, .complex .f32 0 0, .float .f32 0, .float .f32 0] 50)).after hb1
  have r1 := (Has.made (w.alloc (.cells #[.complex .f32 (wd single 3 p.x) (wd single 3 p.y), .complex .f32 (wd single 3 p.u) (wd single 3 p.v), .float .f32 (wd single 1 p.q), .float .f32 (wd single 2 p.m)] 50)) 50 #[.complex .f32 0 0, .complex .f32 0 0, .float .f32 0, .float .f32 0]).after hb1
  have B1 : Below w.heap.size w w1 := (((Below.refl w.heap.size w).alloc (Nat.le_refl _) (.cells #[.complex .f32 (wd single 3 p.x) (wd single 3 p.y), .complex .f32 (wd single 3 p.u) (wd single 3 p.v), .float .f32 (wd single 1 p.q), .float .f32 (wd single 2 p.m)] 50)).alloc (by simp) (.cells #[.complex .f32 0 0, .complex .f32 0 0, .float .f32 0, .float .f32 0] 50)).trans (hb1.mono (by simp; omega))
  rw [World.size_alloc] at r1
  have R1 := keep r1
  have P1 := keep p1
  have B1 := keep B1
  clear hb1 p1 r1 P
  go_wp2_with fail
  refine (B.out _).mono ?_
  rintro e w2 ⟨rfl, hb2⟩
  have R2 := keep (R1.out.after hb2)
  have p2 := P1.out.after hb2
  have P2 := keep p2
  have c2 := p2.cells
  have B2 := keep (B1.out.trans (hb2.mono B1.out.size))
  clear hb2 p2
  go_wp2_with fail
  refine (C.out _).mono ?_
  rintro e w3 ⟨rfl, m, rfl⟩
  go_wp2_with fail
  refine (D.out _).mono ?_
  rintro e w4 ⟨rfl, hb4⟩
  have R4 := keep (Has.after (w := w2.drewN m) R2.out hb4)
  have B4 := keep ((Below.drewN_of B2.out m).trans (hb4.mono B2.out.size))
  have X4 := keep (Has.made w4 50 #[.complex .f32 r.a r.b, .complex .f32 r.c r.d, .float .f32 r.q, .float .f32 r.m])
  clear hb4 c2
  go_wp2_with fail
  refine (E.out _).mono ?_
  rintro e w5 ⟨rfl, hb5⟩
  have R5 := keep ((R4.out.beside (.cells #[.complex .f32 r.a r.b, .complex .f32 r.c r.d, .float .f32 r.q, .float .f32 r.m] 50)).after hb5)
  have x5 := X4.out.after hb5
  have c5 := x5.cells
  have B5 := keep ((B4.out.alloc B4.out.size (.cells #[.complex .f32 r.a r.b, .complex .f32 r.c r.d, .float .f32 r.q, .float .f32 r.m] 50)).trans (hb5.mono (by have := B4.out.size; simp; omega)))
  have r5 := R5.out
  have rc5 := r5.cells
  have ru5 := r5.free
  clear hb5 x5
  go_wp2_with fail
  have q := (((R5.out.written 0 (.complex .f32 r.a r.b)).written 1 (.complex .f32 r.c r.d)).written 2 (.float .f32 r.q)).written 3 (.float .f32 r.m)
  have qc := q.cells
  have z : w.heap.size ≤ w.heap.size + 1 := by omega
  exact bodyPost_ret (v := .tuple #[.agg #[.complex .f32 r.a r.b, .complex .f32 r.c r.d, .float .f32 r.q, .float .f32 r.m], .bool true]) (by simp [results, Try.results21, go_sem, qc]) rfl ⟨rfl, (((B5.out.setCell z _).setCell z _).setCell z _).setCell z _⟩
end Go.Proofs.Ytmnpijhnfdiomaa
