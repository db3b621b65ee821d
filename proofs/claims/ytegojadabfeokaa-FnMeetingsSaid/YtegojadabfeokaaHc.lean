/- Contracts: equal numbers, equal particles, equal lists of particles. -/
import Derived.Test.YtegojadabfeokaaHb
import Derived.Lib.QuietBelow
namespace Go.Proofs.Ytegojadabfeokaa
open Go.RowKit Go.Sort Ieee
set_option linter.unusedSimpArgs false

/-- A word that is a number: equal to itself. -/
def Num (z : Nat) : Prop := (z : Int) < 4294967296 ∧ FloatKind.f32.format.order z z = some .eq
theorem num_wd (k : Nat) (a : Int) (hk : k ≤ 100) (ha : a.natAbs < 16777216) : Num (wd single k a) := ⟨wd32_lt k a, order_wd_self k a hk ha⟩
theorem num_negz : Num 2147483648 := ⟨by decide, by decide +kernel⟩

set_option maxHeartbeats 1000000 in
set_option maxRecDepth 20000 in
theorem BitsOf_num (z : Nat) (h : Num z) (w : World) : Calls Try.prog 52 #[.float .f32 z] w fun e w' => e = .returned (.int .i64 z) ∧ w' = w := by
  obtain ⟨hl, ho⟩ := h
  have hw : IntKind.i64.wrap (z : Int) = z := IntWalk.i64_in _ ⟨by omega, by omega⟩
  have hr := run_bits
  clear hl
  go_enter Try.func52, Try.ntmps52
  go_wp2
  go_ret
  exact ⟨rfl, rfl⟩

set_option maxHeartbeats 1000000 in
theorem SameNumber_num (z : Nat) (h : Num z) (w : World) : Calls Try.prog 23 #[.float .f32 z, .float .f32 z] w fun e w' => e = .returned (.bool true) ∧ w' = w := by
  have B := keep (fun w => BitsOf_num z h w)
  clear h
  have hz : ((z : Int) == (z : Int)) = true := by simp
  go_enter Try.func23, Try.ntmps23
  go_wp2_with (go_at_call 52; refine (B.out _).mono ?_; rintro e w' ⟨rfl, rfl⟩)
  go_ret
  exact ⟨rfl, rfl⟩

set_option maxHeartbeats 1000000 in
theorem SameComplex_num (x y : Nat) (hx : Num x) (hy : Num y) (w : World) : Calls Try.prog 30 #[.complex .f32 x y, .complex .f32 x y] w fun e w' => e = .returned (.bool true) ∧ w' = w := by
  have A := keep (fun w => SameNumber_num x hx w)
  have B := keep (fun w => SameNumber_num y hy w)
  clear hx hy
  go_enter Try.func30, Try.ntmps30
  go_wp2_with fail
  refine (A.out _).mono ?_
  rintro e w' ⟨rfl, rfl⟩
  go_wp2_with fail
  refine (B.out _).mono ?_
  rintro e w' ⟨rfl, rfl⟩
  go_wp2_with fail
  go_ret
  exact ⟨rfl, rfl⟩

def PD.num (p : PD) : Prop := Num p.a ∧ Num p.b ∧ Num p.c ∧ Num p.d ∧ Num p.q ∧ Num p.m
def PD.agg (p : PD) : Value := .agg #[.complex .f32 p.a p.b, .complex .f32 p.c p.d, .float .f32 p.q, .float .f32 p.m]

theorem own_form {w : World} {B : Nat} {v : Value} {ps : List PD} (hown : w.ownsRow B 27 4 v ps.length (psCells ps)) : ∃ A c, v = .slice A ps.length c ∧ (0 < ps.length → ∃ g, A = some ⟨g, 0, none⟩ ∧ g < w.heap.size ∧ ∀ j u, (psCells ps)[j]? = some u → w.cell? ⟨g, j, none⟩ = some u) := by
  rcases hown.2 with ⟨rfl, hn⟩ | ⟨g, cap, cur, rfl, _⟩
  · exact ⟨_, _, by rw [hn], fun h => by omega⟩
  · exact ⟨_, _, rfl, fun _ => ⟨g, rfl, (hown.lt g rfl).2, fun j u hu => owns_cell hown hu⟩⟩

end Go.Proofs.Ytegojadabfeokaa
