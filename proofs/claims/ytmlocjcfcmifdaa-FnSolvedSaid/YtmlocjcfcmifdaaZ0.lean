/- Small facts of a walk over numbers: results of operations, grown worlds, what a source of draws is; contracts of roots, products, lengths. No condition but those stated. -/
import Derived.Test.YtmlocjcfcmifdaaGa
import Derived.Test.YtmlocjcfcmifdaaRv
import Derived.Laws.OwnMore
import Derived.Maps.AppendAt
import Derived.Below
import Derived.Sort.Defs
import Derived.Laws.Externs
import Derived.Outline
namespace Go.Proofs.Ytmlocjcfcmifdaa
open Go.RowKit Go.Sort Ieee
set_option linter.unusedSimpArgs false

theorem zrun {op : BinOp} {k : FloatKind} {x y r : Nat} (h : floatBits op k x y = some r) : ∀ (t : TypeId) (w : World), (binOp op t (.float k x) (.float k y)).run Try.prog w = .ok (.float k r) w := fun t w => run_float_arith w op t k x y r h

theorem zconv32 (a D : Nat) (h : floatToFloatBits .f32 a .f64 = some D) (w : World) : (convert 28 33 (.float .f32 a)).run Try.prog w = .ok (.float .f64 D) w :=
  run_convert_float_float w 28 33 .f32 .f64 _ D (by rw [Try.underlying28]; rfl) Try.underlying33 h

theorem zconv64 (a D : Nat) (h : floatToFloatBits .f64 a .f32 = some D) (w : World) : (convert 33 28 (.float .f64 a)).run Try.prog w = .ok (.float .f32 D) w :=
  run_convert_float_float w 33 28 .f64 .f32 _ D (by rw [Try.underlying33]; rfl) Try.underlying28 h

theorem znegf (a : Nat) (w : World) : (Op.unary .neg (.float .f32 a)).run Try.prog w = .ok (.float .f32 (Op.negFloat .f32 a)) w := rfl

theorem zhas_byG {w w' : World} {g : Nat} {t : TypeId} {cs : Array Value} {row : Option Nat} (h : Has w g t cs) (hg : w.grownBy w' row) (hne : row ≠ some g) : Has w' g t cs :=
  (hg.block g h.in_heap (fun e => hne e.symm)).trans h

theorem zgb_trans {w w1 w2 : World} {r : Option Nat} (h : w.grownBy w1 r) (k : w1.grownBy w2 r) : w.grownBy w2 r :=
  ⟨k.os.trans h.os, k.tape.trans h.tape, k.output.trans h.output, Nat.le_trans h.size k.size, fun i hi hne => (k.block i (Nat.lt_of_lt_of_le hi h.size) hne).trans (h.block i hi hne)⟩

theorem zgb_alloc {w w1 : World} {r : Option Nat} (h : w.grownBy w1 r) (o : Obj) : w.grownBy (w1.alloc o) r :=
  ⟨h.os, h.tape, h.output, Nat.le_trans h.size (by simp), fun i hi hne => (Below.heap_alloc w1 o i (Nat.lt_of_lt_of_le hi h.size)).trans (h.block i hi hne)⟩

theorem zgb_set {w w1 : World} {r : Option Nat} (h : w.grownBy w1 r) {p : Addr} (hp : w.heap.size ≤ p.block) (u : Value) : w.grownBy (w1.setCell p u) r :=
  ⟨h.os, h.tape, h.output, by simpa [World.setCell] using h.size, fun i hi hne => (Below.heap_setCell w1 p u i (by omega)).trans (h.block i hi hne)⟩

theorem zgb_below {w w1 w2 : World} {r : Option Nat} (h : w.grownBy w1 r) {B : Nat} (k : Below B w1 w2) (hB : w.heap.size ≤ B) : w.grownBy w2 r :=
  ⟨k.os.trans h.os, k.tape.trans h.tape, k.output.trans h.output, Nat.le_trans h.size k.size, fun i hi hne => (k.block i (Nat.lt_of_lt_of_le hi hB)).trans (h.block i hi hne)⟩

theorem zown_byG {w w' : World} {B e n g : Nat} {v : Value} {xs : List Value} {size : Nat} (h : w.ownsRow B e size v n xs) (hg : w.grownBy w' (some g)) (hB : g < B) : w'.ownsRow B e size v n xs :=
  h.kept hg (.inr fun e => by have := (h.lt g e).1; omega)

theorem zhas_one (w : World) (v : Value) (t : TypeId) : Has (w.alloc (.cells #[v] t)) w.heap.size t #[v] := Has.made w t #[v]

/-- Bytes that have been handed in, and lie below. -/
theorem zFrom_ok (a : Option Addr) (n c : Nat) (w : World) (hb : Bytes w a n) :
    Calls Try.prog 41 #[.slice a n c] w fun e w' => e = .returned (.pointer (some ⟨w.heap.size, 0, none⟩)) ∧ Drawn w' w.heap.size a n c 0 ∧ Below w.heap.size w w' := by
  have P := keep (Has.made w 102 #[.slice a n c, .int .i64 0, .int .u64 0])
  have HB := keep hb
  clear hb
  go_enter Try.func41, Try.ntmps41
  go_wp2_with fail
  go_ret
  have hbel := (Below.refl w.heap.size w).alloc (Nat.le_refl _) (.cells #[.slice a n c, .int .i64 0, .int .u64 0] 102)
  refine ⟨rfl, ⟨⟨0, 0, Nat.le_refl _, P.out, by omega, by omega⟩, HB.out.later hbel (fun b o e hn => ?_), fun b o e hn => ?_⟩, hbel⟩
  all_goals
    obtain ⟨b', o', e', hl, _⟩ := HB.out 0 hn
    rw [e] at e'
    injection e' with e'
    injection e' with e'
    omega

theorem zsqrt (q r : Nat) (h : double.sqrt q = some r) (w : World) : (callFunc 105 #[.float .f64 q]).run Try.prog w = .ok (.value (.float .f64 r)) w := by
  rw [run_callFunc_extern (e := Extern.MathSqrt.sqrt) Try.func105 (by kernel_rfl) (by kernel_rfl) (by kernel_rfl) (by kernel_rfl)]
  have hd : FloatKind.f64.format.sqrt q = some r := h
  have e : Extern.MathSqrt.sqrt #[.float .f64 q] = pure (.float .f64 r) := by
    show (match FloatKind.f64.format.sqrt q with
      | some r => pure (.float .f64 r)
      | none => do pure (.float .f64 (← choose (.nanBits .f64 q q)))) = (pure (.float .f64 r) : Sem Value)
    rw [hd]
  rw [e]
  rfl

set_option maxHeartbeats 1000000 in
theorem zSqrt (q r : Nat) (h : double.sqrt q = some r) (w : World) : Calls Try.prog 94 #[.float .f64 q] w fun e w' => e = .returned (.float .f64 r) ∧ w' = w := by
  have hr := zsqrt q r h
  clear h
  go_enter Try.func94, Try.ntmps94
  go_wp2_with fail
  go_ret
  exact ⟨rfl, rfl⟩

set_option maxHeartbeats 1000000 in
theorem zScale (a b m r s : Nat) (h1 : floatBits .mul .f32 a m = some r) (h2 : floatBits .mul .f32 b m = some s) (w : World) : Calls Try.prog 72 #[.complex .f32 a b, .float .f32 m] w fun e w' => e = .returned (.complex .f32 r s) ∧ w' = w := by
  have f1 := zrun h1
  have f2 := zrun h2
  clear h1 h2
  go_enter Try.func72, Try.ntmps72
  go_wp2_with fail
  go_ret
  exact ⟨rfl, rfl⟩

theorem zb10Long (a b : Option Addr) (n1 c1 n2 c2 : Nat) (w : World) : Calls Try.prog 7 #[.slice a n1 c1, .slice b n2 c2] w fun e w' => e = .returned (.bool (decide (1048576 < n1) || decide (1048576 < n2))) ∧ w' = w := by
  cases h1 : decide (1048576 < n1)
  · have h1' : decide ((1048576 : Int) < (n1 : Int)) = false := by simp at h1 ⊢; omega
    have e2 : decide ((1048576 : Int) < (n2 : Int)) = decide (1048576 < n2) := by rw [decide_eq_decide]; omega
    go_enter Try.func7, Try.ntmps7
    go_wp2
    go_ret
    exact ⟨by simp, rfl⟩
  · have h1' : decide ((1048576 : Int) < (n1 : Int)) = true := by simp at h1 ⊢; omega
    go_enter Try.func7, Try.ntmps7
    go_wp2
    go_ret
    exact ⟨by simp, rfl⟩

set_option maxHeartbeats 1000000 in
theorem zb10At (a : Option Addr) (n c k m : Nat) (w : World) (hb : Bytes w a n) (hk : k ≤ 100) (hm : 2 ≤ m) (hm2 : m ≤ 100) :
    Calls Try.prog 8 #[.slice a n c, .int .i64 k, .int .i64 m] w fun e w' => (∃ r : Nat, r < m ∧ e = .returned (.int .i64 r)) ∧ w' = w := by
  have h1 : ¬ ((m : Int) ≤ 1) := by omega
  have hm0 : ¬ ((m : Int) = 0) := by omega
  by_cases hlt : k < n
  · obtain ⟨b, o, rfl, hbl, v, hv, hc⟩ := hb k hlt
    have hi : (k : Int) < (n : Int) := by omega
    have hr : v % m < m := Nat.mod_lt _ (by omega)
    have ht : Int.tmod (v : Int) (m : Int) = ((v % m : Nat) : Int) := by rw [Int.tmod_eq_emod_of_nonneg (by omega)]; rfl
    have hw : IntKind.i64.wrap ((v % m : Nat) : Int) = ((v % m : Nat) : Int) := IntWalk.i64_in _ ⟨by omega, by omega⟩
    have HR := keep hr
    clear hb hr hbl
    go_enter Try.func8, Try.ntmps8
    go_wp2_with fail
    go_ret
    exact ⟨⟨v % m, HR.out, by first | rfl | simp⟩, rfl⟩
  · have hi : ¬ ((k : Int) < (n : Int)) := by omega
    have hi2 : ((n : Int) ≤ (k : Int)) := by omega
    obtain ⟨v, hv⟩ : ∃ v : Nat, v = 37 * k + 11 := ⟨_, rfl⟩
    have hr : v % m < m := Nat.mod_lt _ (by omega)
    have hw1 : IntKind.i64.wrap ((k : Int) * 37) = (k : Int) * 37 := IntWalk.i64_in _ ⟨by omega, by omega⟩
    have hw2 : IntKind.i64.wrap ((k : Int) * 37 + 11) = (v : Int) := by
      rw [show (k : Int) * 37 + 11 = (v : Int) by omega]
      exact IntWalk.i64_in _ ⟨by omega, by omega⟩
    have ht : Int.tmod (v : Int) (m : Int) = ((v % m : Nat) : Int) := by rw [Int.tmod_eq_emod_of_nonneg (by omega)]; rfl
    have hw : IntKind.i64.wrap ((v % m : Nat) : Int) = ((v % m : Nat) : Int) := IntWalk.i64_in _ ⟨by omega, by omega⟩
    have HR := keep hr
    clear hb hr hv
    go_enter Try.func8, Try.ntmps8
    go_wp2_with fail
    go_ret
    exact ⟨⟨v % m, HR.out, by first | rfl | simp⟩, rfl⟩

end Go.Proofs.Ytmlocjcfcmifdaa
