/- Small facts of a walk over numbers: results of operations, grown worlds, what a source of draws is; contracts of roots, products, lengths. No condition but those stated. -/
import Derived.Test.YtdonmboidpppmaaGa
import Derived.Test.YtdonmboidpppmaaRv
import Derived.Laws.OwnMore
import Derived.Maps.AppendAt
import Derived.Below
import Derived.Sort.Defs
import Derived.Laws.Externs
import Derived.Outline
namespace Go.Proofs.Ytdonmboidpppmaa
open Go.RowKit Go.Sort Ieee
set_option linter.unusedSimpArgs false

theorem zrun {op : BinOp} {k : FloatKind} {x y r : Nat} (h : floatBits op k x y = some r) : ∀ (t : TypeId) (w : World), (binOp op t (.float k x) (.float k y)).run Try.prog w = .ok (.float k r) w := fun t w => run_float_arith w op t k x y r h

theorem zconv32 (a D : Nat) (h : floatToFloatBits .f32 a .f64 = some D) (w : World) : (convert 32 43 (.float .f32 a)).run Try.prog w = .ok (.float .f64 D) w :=
  run_convert_float_float w 32 43 .f32 .f64 _ D (by rw [Try.underlying32]; rfl) Try.underlying43 h

theorem zconv64 (a D : Nat) (h : floatToFloatBits .f64 a .f32 = some D) (w : World) : (convert 43 32 (.float .f64 a)).run Try.prog w = .ok (.float .f32 D) w :=
  run_convert_float_float w 43 32 .f64 .f32 _ D (by rw [Try.underlying43]; rfl) Try.underlying32 h

theorem znegf (a : Nat) (w : World) : (Op.unary .neg (.float .f32 a)).run Try.prog w = .ok (.float .f32 (Op.negFloat .f32 a)) w := rfl

theorem zhas_byG {w w' : World} {g : Nat} {t : TypeId} {cs : Array Value} {row : Option Nat} (h : Has w g t cs) (hg : w.grownBy w' row) (hne : row ≠ some g) : Has w' g t cs :=
  (hg.block g h.in_heap (fun e => hne e.symm)).trans h

theorem zgb_trans {w w1 w2 : World} {r : Option Nat} (h : w.grownBy w1 r) (k : w1.grownBy w2 r) : w.grownBy w2 r :=
  ⟨k.os.trans h.os, k.tape.trans h.tape, k.output.trans h.output, Nat.le_trans h.size k.size, fun i hi hne => (k.block i (Nat.lt_of_lt_of_le hi h.size) hne).trans (h.block i hi hne)⟩

theorem zgb_alloc {w w1 : World} {r : Option Nat} (h : w.grownBy w1 r) (o : Obj) : w.grownBy (w1.alloc o) r :=
  ⟨h.os, h.tape, h.output, Nat.le_trans h.size (by simp), fun i hi hne => (Below.heap_alloc w1 o i (Nat.lt_of_lt_of_le hi h.size)).trans (h.block i hi hne)⟩

theorem zgb_set {w w1 : World} {r : Option Nat} (h : w.grownBy w1 r) {p : Addr} (hp : w.heap.size ≤ p.block) (u : Value) : w.grownBy (w1.setCell p u) r :=
  ⟨h.os, h.tape, h.output, by simpa [World.setCell] using h.size, fun i hi hne => (Below.heap_setCell w1 p u i (by omega)).trans (h.block i hi hne)⟩

theorem zgb_below {w w1 w2 : World} {r : Option Nat} (h : w.grownBy w1 r) {B : Nat} (k : Below B w1 w2) (hB : w.heap.size ≤ B) : w.grownBy w2 r :=
  ⟨k.os.trans h.os, k.tape.trans h.tape, k.output.trans h.output, Nat.le_trans h.size k.size, fun i hi hne => (k.block i (Nat.lt_of_lt_of_le hi hB)).trans (h.block i hi hne)⟩

theorem zown_byG {w w' : World} {B e n g : Nat} {v : Value} {xs : List Value} {size : Nat} (h : w.ownsRow B e size v n xs) (hg : w.grownBy w' (some g)) (hB : g < B) : w'.ownsRow B e size v n xs :=
  h.kept hg (.inr fun e => by have := (h.lt g e).1; omega)

theorem zhas_one (w : World) (v : Value) (t : TypeId) : Has (w.alloc (.cells #[v] t)) w.heap.size t #[v] := Has.made w t #[v]

/-- Bytes that have been handed in, and lie below. -/
theorem zFrom_ok (a : Option Addr) (n c : Nat) (w : World) (hb : Bytes w a n) :
    Calls Try.prog 29 #[.slice a n c] w fun e w' => e = .returned (.pointer (some ⟨w.heap.size, 0, none⟩)) ∧ Drawn w' w.heap.size a n c 0 ∧ Below w.heap.size w w' := by
  have P := keep (Has.made w 88 #[.slice a n c, .int .i64 0, .int .u64 0])
  have HB := keep hb
  clear hb
  go_enter Try.func29, Try.ntmps29
  go_wp2_with fail
  go_ret
  have hbel := (Below.refl w.heap.size w).alloc (Nat.le_refl _) (.cells #[.slice a n c, .int .i64 0, .int .u64 0] 88)
  refine ⟨rfl, ⟨⟨0, 0, Nat.le_refl _, P.out, by omega, by omega⟩, HB.out.later hbel (fun b o e hn => ?_), fun b o e hn => ?_⟩, hbel⟩
  all_goals
    obtain ⟨b', o', e', hl, _⟩ := HB.out 0 hn
    rw [e] at e'
    injection e' with e'
    injection e' with e'
    omega

theorem zsqrt (q r : Nat) (h : double.sqrt q = some r) (w : World) : (callFunc 72 #[.float .f64 q]).run Try.prog w = .ok (.value (.float .f64 r)) w := by
  rw [run_callFunc_extern (e := Extern.MathSqrt.sqrt) Try.func72 (by kernel_rfl) (by kernel_rfl) (by kernel_rfl) (by kernel_rfl)]
  have hd : FloatKind.f64.format.sqrt q = some r := h
  have e : Extern.MathSqrt.sqrt #[.float .f64 q] = pure (.float .f64 r) := by
    show (match FloatKind.f64.format.sqrt q with
      | some r => pure (.float .f64 r)
      | none => do pure (.float .f64 (← choose (.nanBits .f64 q q)))) = (pure (.float .f64 r) : Sem Value)
    rw [hd]
  rw [e]
  rfl

set_option maxHeartbeats 1000000 in
theorem zSqrt (q r : Nat) (h : double.sqrt q = some r) (w : World) : Calls Try.prog 48 #[.float .f64 q] w fun e w' => e = .returned (.float .f64 r) ∧ w' = w := by
  have hr := zsqrt q r h
  clear h
  go_enter Try.func48, Try.ntmps48
  go_wp2_with fail
  go_ret
  exact ⟨rfl, rfl⟩

set_option maxHeartbeats 1000000 in
theorem zScale (a b m r s : Nat) (h1 : floatBits .mul .f32 a m = some r) (h2 : floatBits .mul .f32 b m = some s) (w : World) : Calls Try.prog 19 #[.complex .f32 a b, .float .f32 m] w fun e w' => e = .returned (.complex .f32 r s) ∧ w' = w := by
  have f1 := zrun h1
  have f2 := zrun h2
  clear h1 h2
  go_enter Try.func19, Try.ntmps19
  go_wp2_with fail
  go_ret
  exact ⟨rfl, rfl⟩

set_option maxHeartbeats 1000000 in
theorem zpower (a b A B p q r : Nat) (h1 : floatToFloatBits .f32 a .f64 = some A) (h2 : floatToFloatBits .f32 b .f64 = some B) (h3 : floatBits .mul .f64 A A = some p) (h4 : floatBits .mul .f64 B B = some q) (h5 : floatBits .add .f64 p q = some r) (w : World) : Calls Try.prog 49 #[.complex .f32 a b] w fun e w' => e = .returned (.float .f64 r) ∧ w' = w := by
  have P : ∀ w, Calls Try.prog 73 #[.complex .f32 a b] w fun e w' => e = .returned (.tuple #[.float .f64 A, .float .f64 B]) ∧ w' = w := by
    intro w
    have f1 := zconv32 a A h1
    have f2 := zconv32 b B h2
    clear h1 h2 h3 h4 h5
    go_enter Try.func73, Try.ntmps73
    go_wp2_with fail
    go_ret2
    exact ⟨rfl, rfl⟩
  have P := keep P
  have f3 := zrun h3
  have f4 := zrun h4
  have f5 := zrun h5
  clear h1 h2 h3 h4 h5
  go_enter Try.func49, Try.ntmps49
  go_wp2_with fail
  refine (P.out _).mono ?_
  rintro e w' ⟨rfl, rfl⟩
  go_wp2_with fail
  go_ret
  exact ⟨rfl, rfl⟩

set_option maxHeartbeats 1000000 in
theorem zLong (a b A B p q r R L : Nat) (h1 : floatToFloatBits .f32 a .f64 = some A) (h2 : floatToFloatBits .f32 b .f64 = some B) (h3 : floatBits .mul .f64 A A = some p) (h4 : floatBits .mul .f64 B B = some q) (h5 : floatBits .add .f64 p q = some r) (h6 : double.sqrt r = some R) (h7 : floatToFloatBits .f64 R .f32 = some L) (w : World) : Calls Try.prog 13 #[.complex .f32 a b] w fun e w' => e = .returned (.float .f32 L) ∧ w' = w := by
  have P := keep (fun w => zpower a b A B p q r h1 h2 h3 h4 h5 w)
  have S := keep (fun w => zSqrt r R h6 w)
  have f7 := zconv64 R L h7
  clear h1 h2 h3 h4 h5 h6 h7
  go_enter Try.func13, Try.ntmps13
  go_wp2_with fail
  refine (P.out _).mono ?_
  rintro e w' ⟨rfl, rfl⟩
  go_wp2_with fail
  refine (S.out _).mono ?_
  rintro e w' ⟨rfl, rfl⟩
  go_wp2_with fail
  go_ret
  exact ⟨rfl, rfl⟩

set_option maxHeartbeats 1000000 in
theorem zConj (a b : Nat) (w : World) : Calls Try.prog 87 #[.complex .f32 a b] w fun e w' => e = .returned (.complex .f32 a (Op.negFloat .f32 b)) ∧ w' = w := by
  have f1 := znegf b
  go_enter Try.func87, Try.ntmps87
  go_wp2_with fail
  go_ret
  exact ⟨rfl, rfl⟩

set_option maxHeartbeats 1000000 in
theorem zparts (a b A B : Nat) (h1 : floatToFloatBits .f32 a .f64 = some A) (h2 : floatToFloatBits .f32 b .f64 = some B) (w : World) : Calls Try.prog 73 #[.complex .f32 a b] w fun e w' => e = .returned (.tuple #[.float .f64 A, .float .f64 B]) ∧ w' = w := by
  have f1 := zconv32 a A h1
  have f2 := zconv32 b B h2
  clear h1 h2
  go_enter Try.func73, Try.ntmps73
  go_wp2_with fail
  go_ret2
  exact ⟨rfl, rfl⟩

set_option maxHeartbeats 1000000 in
theorem zproduct (a b c d A B C D p1 p2' p3 q1 q2 q3 : Nat) (ha : floatToFloatBits .f32 a .f64 = some A) (hb : floatToFloatBits .f32 b .f64 = some B) (hc : floatToFloatBits .f32 c .f64 = some C) (hd : floatToFloatBits .f32 d .f64 = some D)
    (h1 : floatBits .mul .f64 A C = some p1) (h2 : floatBits .mul .f64 B D = some p2') (h3 : floatBits .sub .f64 p1 p2' = some p3) (h4 : floatBits .mul .f64 A D = some q1) (h5 : floatBits .mul .f64 B C = some q2) (h6 : floatBits .add .f64 q1 q2 = some q3) (w : World) :
    Calls Try.prog 83 #[.complex .f32 a b, .complex .f32 c d] w fun e w' => e = .returned (.tuple #[.float .f64 p3, .float .f64 q3]) ∧ w' = w := by
  have P1 := keep (fun w => zparts a b A B ha hb w)
  have P2 := keep (fun w => zparts c d C D hc hd w)
  have f1 := zrun h1
  have f2 := zrun h2
  have f3 := zrun h3
  have f4 := zrun h4
  have f5 := zrun h5
  have f6 := zrun h6
  clear ha hb hc hd h1 h2 h3 h4 h5 h6
  go_enter Try.func83, Try.ntmps83
  go_wp2_with fail
  refine (P1.out _).mono ?_
  rintro e w' ⟨rfl, rfl⟩
  go_wp2_with fail
  refine (P2.out _).mono ?_
  rintro e w' ⟨rfl, rfl⟩
  go_wp2_with fail
  go_ret2
  exact ⟨rfl, rfl⟩

set_option maxHeartbeats 1000000 in
theorem zQuot (a b c d p q r s t S T : Nat) (hp : ∀ w, Calls Try.prog 83 #[.complex .f32 a b, .complex .f32 c (Op.negFloat .f32 d)] w fun e w' => e = .returned (.tuple #[.float .f64 p, .float .f64 q]) ∧ w' = w) (hr : ∀ w, Calls Try.prog 49 #[.complex .f32 c d] w fun e w' => e = .returned (.float .f64 r) ∧ w' = w)
    (h1 : floatBits .quo .f64 p r = some s) (h2 : floatBits .quo .f64 q r = some t) (h3 : floatToFloatBits .f64 s .f32 = some S) (h4 : floatToFloatBits .f64 t .f32 = some T) (w : World) :
    Calls Try.prog 84 #[.complex .f32 a b, .complex .f32 c d] w fun e w' => e = .returned (.complex .f32 S T) ∧ w' = w := by
  have HP := keep hp
  have HR := keep hr
  have CJ := keep (fun w => zConj c d w)
  have f1 := zrun h1
  have f2 := zrun h2
  have f3 := zconv64 s S h3
  have f4 := zconv64 t T h4
  clear hp hr h1 h2 h3 h4
  go_enter Try.func84, Try.ntmps84
  go_wp2_with fail
  refine (CJ.out _).mono ?_
  rintro e w' ⟨rfl, rfl⟩
  go_wp2_with fail
  refine (HP.out _).mono ?_
  rintro e w' ⟨rfl, rfl⟩
  go_wp2_with fail
  refine (HR.out _).mono ?_
  rintro e w' ⟨rfl, rfl⟩
  go_wp2_with fail
  go_ret
  exact ⟨rfl, rfl⟩

end Go.Proofs.Ytdonmboidpppmaa
