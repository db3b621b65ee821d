/- Contracts: the momentum and the energy of a list, or of its list with the opposite speeds. -/
import Derived.Test.YtdonmboidpppmaaIb
namespace Go.Proofs.Ytdonmboidpppmaa
open Go.RowKit Go.Sort Ieee
set_option linter.unusedSimpArgs false

def GP.tpd (t : Bool) (p : GP) : PD := ⟨wd single 3 p.x, wd single 3 p.y, speedW t p.u, speedW t p.v, wd single 1 p.q, wd single 2 p.m⟩
theorem GP.tpd_false (p : GP) : p.tpd false = p.pd := by
  unfold GP.tpd GP.pd speedW
  simp only [Bool.false_eq_true, if_false]
theorem GP.tpd_true (p : GP) : p.tpd true = p.pd.turn := by
  unfold GP.tpd GP.pd PD.turn speedW
  simp only [if_true]
theorem GP.tpd_ok (t : Bool) (p : GP) (h : p.ok) : (p.tpd t).ok = true := by
  obtain ⟨h1, h2, ⟨u0, u1⟩, ⟨v0, v1⟩, h5, h6⟩ := h
  unfold PD.ok validP finC GP.tpd
  simp only
  rw [fin_wd 3 p.x (by omega) (by omega), fin_wd 3 p.y (by omega) (by omega), (speed_num t p.u u0 u1).2, (speed_num t p.v v0 v1).2, fin_wd 1 p.q (by omega) (by omega), fin_wd 2 p.m (by omega) (by omega), gtr_mass p.m (by omega) (by omega)]
  rfl
theorem GP.tall_ok (t : Bool) (gs : List GP) (h : ∀ p ∈ gs, p.ok) : (gs.map (GP.tpd t)).all PD.ok = true := by
  rw [List.all_map]
  exact List.all_eq_true.2 fun p hp => GP.tpd_ok t p (h p hp)

theorem run_conv32 (a D : Nat) (h : floatToFloatBits .f32 a .f64 = some D) (w : World) : (convert 32 43 (.float .f32 a)).run Try.prog w = .ok (.float .f64 D) w :=
  run_convert_float_float w 32 43 .f32 .f64 _ D (by rw [Try.underlying32]; rfl) Try.underlying43 h
theorem run_conv64 (a D : Nat) (h : floatToFloatBits .f64 a .f32 = some D) (w : World) : (convert 43 32 (.float .f64 a)).run Try.prog w = .ok (.float .f32 D) w :=
  run_convert_float_float w 43 32 .f64 .f32 _ D (by rw [Try.underlying43]; rfl) Try.underlying32 h

set_option maxHeartbeats 1000000 in
theorem ScaleComplex_any (a b m r s : Nat) (h1 : floatBits .mul .f32 a m = some r) (h2 : floatBits .mul .f32 b m = some s) (w : World) : Calls Try.prog 19 #[.complex .f32 a b, .float .f32 m] w fun e w' => e = .returned (.complex .f32 r s) ∧ w' = w := by
  have f1 := frun h1
  have f2 := frun h2
  clear h1 h2
  go_enter Try.func19, Try.ntmps19
  go_wp2_with fail
  go_ret
  exact ⟨rfl, rfl⟩
set_option maxHeartbeats 1000000 in
theorem plus_any (a b c d r s : Nat) (h1 : floatBits .add .f32 a c = some r) (h2 : floatBits .add .f32 b d = some s) (w : World) : Calls Try.prog 69 #[.complex .f32 a b, .complex .f32 c d] w fun e w' => e = .returned (.complex .f32 r s) ∧ w' = w := by
  have f1 := frun h1
  have f2 := frun h2
  clear h1 h2
  go_enter Try.func69, Try.ntmps69
  go_wp2_with fail
  go_ret
  exact ⟨rfl, rfl⟩
set_option maxHeartbeats 1000000 in
theorem power_any (a b A B p q r : Nat) (h1 : floatToFloatBits .f32 a .f64 = some A) (h2 : floatToFloatBits .f32 b .f64 = some B) (h3 : floatBits .mul .f64 A A = some p) (h4 : floatBits .mul .f64 B B = some q) (h5 : floatBits .add .f64 p q = some r) (w : World) : Calls Try.prog 49 #[.complex .f32 a b] w fun e w' => e = .returned (.float .f64 r) ∧ w' = w := by
  have P : ∀ w, Calls Try.prog 73 #[.complex .f32 a b] w fun e w' => e = .returned (.tuple #[.float .f64 A, .float .f64 B]) ∧ w' = w := by
    intro w
    have f1 := run_conv32 a A h1
    have f2 := run_conv32 b B h2
    clear h1 h2 h3 h4 h5
    go_enter Try.func73, Try.ntmps73
    go_wp2_with fail
    go_ret2
    exact ⟨rfl, rfl⟩
  have P := keep P
  have f3 := frun h3
  have f4 := frun h4
  have f5 := frun h5
  clear h1 h2 h3 h4 h5
  go_enter Try.func49, Try.ntmps49
  go_wp2_with fail
  refine (P.out _).mono ?_
  rintro e w' ⟨rfl, rfl⟩
  go_wp2_with fail
  go_ret
  exact ⟨rfl, rfl⟩

theorem town_form {w : World} {B : Nat} {v : Value} {t : Bool} {gs : List GP} (h : w.ownsRow B 41 4 v gs.length (psCells (gs.map (GP.tpd t)))) :
    ∃ A c, v = .slice A gs.length c ∧ ∀ i (hi : i < gs.length), ∃ g, A = some ⟨g, 0, none⟩ ∧ g < w.heap.size ∧ w.cell? ⟨g, i * 4, none⟩ = some (.complex .f32 (wd single 3 gs[i].x) (wd single 3 gs[i].y)) ∧ w.cell? ⟨g, i * 4 + 1, none⟩ = some (.complex .f32 (speedW t gs[i].u) (speedW t gs[i].v)) ∧ w.cell? ⟨g, i * 4 + 2, none⟩ = some (.float .f32 (wd single 1 gs[i].q)) ∧ w.cell? ⟨g, i * 4 + 3, none⟩ = some (.float .f32 (wd single 2 gs[i].m)) := by
  obtain ⟨A, c, rfl, hA⟩ := own_form (ps := gs.map (GP.tpd t)) (by rw [List.length_map]; exact h)
  rw [List.length_map] at hA ⊢
  refine ⟨A, c, rfl, fun i hi => ?_⟩
  obtain ⟨g, rfl, hg, hc⟩ := hA (by omega)
  have hi' : i < (gs.map (GP.tpd t)).length := by rw [List.length_map]; exact hi
  have h4 : ∀ j u, j < 4 → (gs[i].tpd t).cells[j]? = some u → w.cell? ⟨g, i * 4 + j, none⟩ = some u := fun j u hj hu => hc _ _ (by rw [psCells_at _ i hi' j hj, List.getElem_map]; exact hu)
  exact ⟨g, rfl, hg, h4 0 _ (by omega) rfl, h4 1 _ (by omega) rfl, h4 2 _ (by omega) rfl, h4 3 _ (by omega) rfl⟩

def sumOf (f : GP → Int) (gs : List GP) : Int := (gs.map f).sum
theorem sumOf_take (f : GP → Int) (gs : List GP) (i : Nat) (h : i < gs.length) : sumOf f (gs.take (i + 1)) = sumOf f (gs.take i) + f gs[i] := by
  unfold sumOf
  rw [List.take_succ_eq_append_getElem h, List.map_append, List.sum_append]
  simp
theorem sumOf_bound (f : GP → Int) (K : Nat) (gs : List GP) (h : ∀ p ∈ gs, (f p).natAbs ≤ K) : (sumOf f gs).natAbs ≤ K * gs.length := by
  induction gs with
  | nil => simp [sumOf]
  | cons p gs ih =>
    have h1 := ih (fun q hq => h q (List.mem_cons_of_mem _ hq))
    have h2 := h p (List.mem_cons_self ..)
    unfold sumOf at *
    simp only [List.map_cons, List.sum_cons, List.length_cons]
    rw [Nat.mul_succ]
    omega
theorem sumOf_neg (f : GP → Int) (gs : List GP) : sumOf (fun p => -f p) gs = -sumOf f gs := by
  induction gs with
  | nil => rfl
  | cons p gs ih =>
    unfold sumOf at *
    simp only [List.map_cons, List.sum_cons]
    rw [ih]
    omega

theorem Areg_t (t : Bool) (B : Nat) (v : Value) (gs : List GP) (w : World) (h : w.ownsRow B 41 4 v gs.length (psCells (gs.map (GP.tpd t)))) (hok : ∀ p ∈ gs, p.ok) (hN : gs.length ≤ 6) :
    Calls Try.prog 38 #[v] w fun e w' => e = .returned (.bool true) ∧ Below w.heap.size w w' :=
  AreParticles_ok B v (gs.map (GP.tpd t)) w (by rw [List.length_map]; exact h) (GP.tall_ok t gs hok) (by rw [List.length_map]; omega)

def momU (t : Bool) (p : GP) : Int := sgn t p.u * p.m
def momV (t : Bool) (p : GP) : Int := sgn t p.v * p.m
theorem mom_bound (t : Bool) (p : GP) (h : p.ok) : (momU t p).natAbs ≤ 64 ∧ (momV t p).natAbs ≤ 64 := by
  obtain ⟨h1, h2, ⟨u0, u1⟩, ⟨v0, v1⟩, h5, h6⟩ := h
  unfold momU momV
  rw [Int.natAbs_mul, Int.natAbs_mul]
  have a : (sgn t p.u).natAbs ≤ 8 := by unfold sgn; split <;> omega
  have b : (sgn t p.v).natAbs ≤ 8 := by unfold sgn; split <;> omega
  exact ⟨Nat.mul_le_mul a (show p.m.natAbs ≤ 8 by omega), Nat.mul_le_mul b (show p.m.natAbs ≤ 8 by omega)⟩

def enOf (p : GP) : Int := p.m * (p.u * p.u + p.v * p.v)
theorem sq_bound (u : Int) (h0 : -8 ≤ u) (h1 : u ≤ 8) : 0 ≤ u * u ∧ u * u ≤ 64 := by
  have h : (u * u).natAbs ≤ 8 * 8 := by rw [Int.natAbs_mul]; exact Nat.mul_le_mul (by omega) (by omega)
  have h2 : 0 ≤ u * u := by
    rcases Int.le_total 0 u with h | h
    · exact Int.mul_nonneg h h
    · exact Int.mul_nonneg_of_nonpos_of_nonpos h h
  omega
theorem en_bound (p : GP) (h : p.ok) : 0 ≤ enOf p ∧ (enOf p).natAbs ≤ 1024 := by
  obtain ⟨h1, h2, ⟨u0, u1⟩, ⟨v0, v1⟩, h5, ⟨m0, m1⟩⟩ := h
  have a := sq_bound p.u u0 u1
  have b := sq_bound p.v v0 v1
  have c : 0 ≤ enOf p := Int.mul_nonneg (by omega) (by omega)
  refine ⟨c, ?_⟩
  unfold enOf
  rw [Int.natAbs_mul]
  exact Nat.mul_le_mul (show p.m.natAbs ≤ 8 by omega) (show _ ≤ 128 by omega)
theorem fadd64 {k : Nat} {a b : Int} (hk : k ≤ 90) (ha : a.natAbs < 16777216) (hb : b.natAbs < 16777216) : floatBits .add .f64 (wd double k a) (wd double k b) = some (wd double k (a + b)) :=
  add_wd (f := double) fit_double binade_le_double (by show k + 52 ≤ 149; omega) (by show a.natAbs < 9007199254740992; omega) (by show b.natAbs < 9007199254740992; omega) (by show (a + b).natAbs < 9007199254740992; omega)

theorem energy_steps (t : Bool) (p : GP) (h : p.ok) : ∃ M P : Nat, floatToFloatBits .f32 (wd single 2 p.m) .f64 = some M ∧ floatBits .mul .f64 4602678819172646912 M = some (wd double 3 p.m) ∧ (∀ w, Calls Try.prog 49 #[.complex .f32 (speedW t p.u) (speedW t p.v)] w fun e w' => e = .returned (.float .f64 P) ∧ w' = w) ∧ floatBits .mul .f64 (wd double 3 p.m) P = some (wd double 9 (enOf p)) := by
  have eb := en_bound p h
  obtain ⟨h1, h2, ⟨u0, u1⟩, ⟨v0, v1⟩, h5, ⟨m0, m1⟩⟩ := h
  obtain ⟨D, hD, sD⟩ := speed_square t p.u u0 u1
  obtain ⟨E, hE, sE⟩ := speed_square t p.v v0 v1
  obtain ⟨M, hM, sM⟩ := mass_half p.m m0 m1
  have a := sq_bound p.u u0 u1
  have b := sq_bound p.v v0 v1
  refine ⟨M, wd double 6 (p.u * p.u + p.v * p.v), hM, sM, fun w => power_any _ _ D E _ _ _ hD hE sD sE (fadd64 (by omega) (by omega) (by omega)) w, ?_⟩
  exact mul_wd (f := double) fit_double binade_le_double (by omega) (by omega) (by decide) (by decide) (by decide) (by show p.m.natAbs < 9007199254740992; omega) (by show (p.u * p.u + p.v * p.v).natAbs < 9007199254740992; omega) (by
    show (p.m * (p.u * p.u + p.v * p.v)).natAbs < 9007199254740992
    have := eb.2
    unfold enOf at this
    omega)

end Go.Proofs.Ytdonmboidpppmaa
