/- Floats in a walk: results up to the choice of a NaN's bits; stores of floats and complex numbers. No condition. -/
import Derived.Test.YtmlocjcfcmifdaaRows
import Derived.Test.YtmlocjcfcmifdaaKeep
import Derived.WalkKit
import Derived.WalkSpells
import Derived.WalkLawsBesides
import Derived.Deep.QuietTactic
import Derived.BigQuiet
import Derived.Handy
import Derived.Test.YtmlocjcfcmifdaaNum
namespace Go.Proofs.Ytmlocjcfcmifdaa
open Go.RowKit

section
variable (P : Program) (w : World) (a : Addr) (m : Mode)
@[go_sem] theorem run_store_float (k : FloatKind) (n : Nat) : (store a (.float k n) m).run P w = stored P w a (.float k n) m := run_store P w a _ m rfl
@[go_sem] theorem run_store_complex (k : FloatKind) (n i : Nat) : (store a (.complex k n i) m).run P w = stored P w a (.complex k n i) m := run_store P w a _ m rfl
end


/-- Draws go outward. -/
@[go_sem] theorem alloc_drewN (w : World) (n : Nat) (o : Obj) : (w.drewN n).alloc o = (w.alloc o).drewN n := rfl
@[go_sem] theorem setCell_drewN (w : World) (n : Nat) (a : Addr) (v : Value) : (w.drewN n).setCell a v = (w.setCell a v).drewN n := rfl

theorem _root_.Go.RowKit.Below.drewN (B : Nat) (w : World) (n : Nat) : Below B w (w.drewN n) := ⟨rfl, rfl, rfl, Nat.le_refl _, fun _ _ => rfl⟩
theorem _root_.Go.RowKit.Below.drewN_of {B : Nat} {a w : World} (h : Below B a w) (n : Nat) : Below B a (w.drewN n) := h.trans (Below.drewN B w n)

/-- Is this word a NaN? -/
def isNaN (k : FloatKind) (b : Nat) : Bool := (k.format.read b).isNaN

/-- Two words of one number; any two NaNs are one. -/
def FEq (k : FloatKind) (r s : Nat) : Prop := r = s ∨ (isNaN k r = true ∧ isNaN k s = true)

theorem FEq.refl (k : FloatKind) (r : Nat) : FEq k r r := .inl rfl
theorem FEq.symm {k : FloatKind} {r s : Nat} (h : FEq k r s) : FEq k s r := by
  rcases h with h | ⟨h, g⟩
  · exact .inl h.symm
  · exact .inr ⟨g, h⟩
theorem FEq.trans {k : FloatKind} {r s t : Nat} (h : FEq k r s) (g : FEq k s t) : FEq k r t := by
  rcases h with rfl | ⟨h1, h2⟩
  · exact g
  · rcases g with rfl | ⟨g1, g2⟩
    · exact .inr ⟨h1, h2⟩
    · exact .inr ⟨h1, g2⟩
theorem FEq.eq {k : FloatKind} {r s : Nat} (h : FEq k r s) (hn : isNaN k s = false) : r = s := by
  rcases h with h | ⟨_, h⟩
  · exact h
  · rw [hn] at h; cases h
theorem FEq.nan {k : FloatKind} {r s : Nat} (h : FEq k r s) : isNaN k r = isNaN k s := by
  rcases h with rfl | ⟨h1, h2⟩
  · rfl
  · rw [h1, h2]

theorem read_nan_of {f : Ieee.Format} {b : Nat} (h : (f.read b).isNaN = true) : ∃ s t, f.read b = .nan s t := by
  cases hd : f.read b with
  | number s m e => rw [hd] at h; cases h
  | infinity s => rw [hd] at h; cases h
  | nan s t => exact ⟨s, t, rfl⟩

theorem order_nan_left {f : Ieee.Format} {x y : Nat} (h : (f.read x).isNaN = true) : f.order x y = none := by
  obtain ⟨s, t, e⟩ := read_nan_of h
  simp [Ieee.Format.order, e, Ieee.Datum.order]
theorem order_nan_right {f : Ieee.Format} {x y : Nat} (h : (f.read y).isNaN = true) : f.order x y = none := by
  obtain ⟨s, t, e⟩ := read_nan_of h
  cases hx : f.read x <;> simp [Ieee.Format.order, e, hx, Ieee.Datum.order]

theorem FEq.order {k : FloatKind} {x x' y y' : Nat} (h : FEq k x x') (g : FEq k y y') : k.format.order x y = k.format.order x' y' := by
  rcases h with rfl | ⟨h1, h2⟩
  · rcases g with rfl | ⟨g1, g2⟩
    · rfl
    · rw [order_nan_right g1, order_nan_right g2]
  · rw [order_nan_left h1, order_nan_left h2]

/-- The bits of a NaN that the tape gives are a NaN's. -/
theorem nan_cut32 (t : Nat) : isNaN .f32 ((t % 2) * 2 ^ 31 + 0x7f800000 + 1 + (t / 2) % (2 ^ 23 - 1)) = true := by
  have h1 : t % 2 < 2 := Nat.mod_lt _ (by decide)
  have h2 : (t / 2) % (2 ^ 23 - 1) < 2 ^ 23 - 1 := Nat.mod_lt _ (by decide)
  generalize (t / 2) % (2 ^ 23 - 1) = q at *
  generalize t % 2 = p at *
  have e : (p * 2 ^ 31 + 0x7f800000 + 1 + q) % 2147483648 = 2139095040 + 1 + q := by omega
  show ((Ieee.single.read _).isNaN) = true
  unfold Ieee.Format.read
  simp only [show Ieee.single.signWeight = 2147483648 from by decide, show Ieee.single.binade = 8388608 from by decide, show Ieee.single.infRung = 2139095040 from by decide, e]
  rw [if_neg (by omega), if_neg (by omega), if_neg (by omega)]
  rfl
theorem nan_cut64 (t : Nat) : isNaN .f64 ((t % 2) * 2 ^ 63 + 0x7ff0000000000000 + 1 + (t / 2) % (2 ^ 52 - 1)) = true := by
  have h1 : t % 2 < 2 := Nat.mod_lt _ (by decide)
  have h2 : (t / 2) % (2 ^ 52 - 1) < 2 ^ 52 - 1 := Nat.mod_lt _ (by decide)
  generalize (t / 2) % (2 ^ 52 - 1) = q at *
  generalize t % 2 = p at *
  have e : (p * 2 ^ 63 + 0x7ff0000000000000 + 1 + q) % 9223372036854775808 = 9218868437227405312 + 1 + q := by omega
  show ((Ieee.double.read _).isNaN) = true
  unfold Ieee.Format.read
  simp only [show Ieee.double.signWeight = 9223372036854775808 from by decide, show Ieee.double.binade = 4503599627370496 from by decide, show Ieee.double.infRung = 9218868437227405312 from by decide, e]
  rw [if_neg (by omega), if_neg (by omega), if_neg (by omega)]
  rfl

/-- The NaN that stands for all. -/
def qnan : FloatKind → Nat
  | .f32 => 2143289344
  | .f64 => 9221120237041090560
theorem qnan_nan (k : FloatKind) : isNaN k (qnan k) = true := by cases k <;> decide +kernel

/-- '+', '-', '*', '/' as a function; every NaN the one. -/
def fop (op : BinOp) (k : FloatKind) (x y : Nat) : Nat := (floatBits op k x y).getD (qnan k)

def arithOp : BinOp → Bool
  | .add | .sub | .mul | .quo => true
  | _ => false

theorem run_farith {P : Program} (w : World) (op : BinOp) (t : TypeId) (k : FloatKind) (x y : Nat) (ho : arithOp op = true) :
    ∃ r m, (binOp op t (.float k x) (.float k y)).run P w = .ok (.float k r) (w.drewN m) ∧ FEq k r (fop op k x y) := by
  cases h : floatBits op k x y with
  | some r => exact ⟨r, 0, run_float_arith w op t k x y r h, by simp [fop, h, FEq]⟩
  | none =>
    have hq : fop op k x y = qnan k := by simp [fop, h]
    rw [hq]
    unfold floatBits at h
    refine ⟨Question.cut (.nanBits k x y) (w.tape w.drawn (.nanBits k x y)), 1, ?_, .inr ⟨?_, qnan_nan k⟩⟩
    · cases op <;> simp [arithOp] at ho <;> simp only at h <;> simp [binOp, Op.floatArith, h, choose, Sem.run, Question.forced, World.drewN]
    · cases k
      · exact nan_cut32 _
      · exact nan_cut64 _

theorem wpList_farith {P : Program} {ops : Array Oper} {Q : Exit → Act → World → Prop} {rest : List Oper} {o : Oper} {a : Act} {w : World}
    (hg : o.guard = none) (op : BinOp) (t ty : TypeId) (x y : Operand) (hop : o.op = .binOp op t x y ty) (ho : arithOp op = true)
    (k : FloatKind) (X Y : Nat) (hx : a.eval x = .float k X) (hy : a.eval y = .float k Y)
    (h : ∀ r m, FEq k r (fop op k X Y) → wpList P ops Q rest (a.put o.dst (.float k r)) (w.drewN m)) : wpList P ops Q (o :: rest) a w := by
  refine wpList_plain hg fun K hK => ?_
  obtain ⟨r, m, hrun, hr⟩ := run_farith (P := P) w op t k X Y ho
  have hgd : eqGuard op t x y (.float k X) (.float k Y) = pure () := by cases op <;> rfl
  unfold Oper.wp
  simp [execOp, hop, hx, hy, hrun, hgd, Result.andThen]
  exact hK _ _ (h r m hr)

/-- 'float64(x)', every NaN the one. -/
def widen (b : Nat) : Nat := match FloatKind.f32.decode b with
  | .nan _ _ => qnan .f64
  | d => FloatKind.f64.encode d

theorem widen_number {b : Nat} {s : Bool} {m : Nat} {i : Int} (h : FloatKind.f32.decode b = .number s m i) :
    ∃ r, r < Ieee.double.infRung ∧ widen b = Ieee.double.word s r ∧ FloatKind.f64.decode (widen b) = .number s (rungMag Ieee.double r) (rungPlace Ieee.double r) ∧ SameMag m i (rungMag Ieee.double r) (rungPlace Ieee.double r) := by
  obtain ⟨r, hr, e, hs⟩ := single_double (b := b) h
  have hw : widen b = Ieee.double.word s r := by
    unfold widen; rw [h]; exact e
  refine ⟨r, hr, hw, ?_, hs⟩
  rw [hw]; exact read_word Ieee.double s r hr

theorem run_widen {P : Program} (w : World) (src dst : TypeId) (b : Nat) (hs : (P.underlying src).isSome = true) (hd : P.underlying dst = some (.float .f64)) :
    ∃ r m, (convert src dst (.float .f32 b)).run P w = .ok (.float .f64 r) (w.drewN m) ∧ FEq .f64 r (widen b) := by
  cases h : FloatKind.f32.decode b with
  | nan s t =>
    refine ⟨Question.cut (.nanConv .f64 b) (w.tape w.drawn (.nanConv .f64 b)), 1, ?_, .inr ⟨nan_cut64 _, by unfold widen; rw [h]; exact qnan_nan _⟩⟩
    obtain ⟨u, hs'⟩ := Option.isSome_iff_exists.1 hs
    cases u <;> simp [convert, run_underlying hs', run_underlying hd, Conv.floatToFloat, h, choose, Sem.run, Question.forced, World.drewN]
  | infinity s =>
    refine ⟨_, 0, run_convert_float_float w src dst .f32 .f64 b (widen b) hs hd ?_, FEq.refl _ _⟩
    unfold floatToFloatBits widen
    simp [h]
  | number s m i =>
    obtain ⟨r, hr, hw, hread, hsm⟩ := widen_number h
    refine ⟨_, 0, run_convert_float_float w src dst .f32 .f64 b (widen b) hs hd ?_, FEq.refl _ _⟩
    have he : FloatKind.f64.encode (.number s m i) = widen b := by unfold widen; rw [h]
    unfold floatToFloatBits
    simp only [h, he, hread]
    simp [Ieee.Datum.isInfinity]

theorem wpList_widen {P : Program} {ops : Array Oper} {Q : Exit → Act → World → Prop} {rest : List Oper} {o : Oper} {a : Act} {w : World}
    (hg : o.guard = none) (src dst : TypeId) (x : Operand) (hop : o.op = .convert src dst x)
    (X : Nat) (hx : a.eval x = .float .f32 X) (hs : (P.underlying src).isSome = true) (hd : P.underlying dst = some (.float .f64))
    (h : ∀ r m, FEq .f64 r (widen X) → wpList P ops Q rest (a.put o.dst (.float .f64 r)) (w.drewN m)) : wpList P ops Q (o :: rest) a w := by
  refine wpList_plain hg fun K hK => ?_
  obtain ⟨r, m, hrun, hr⟩ := run_widen (P := P) w src dst X hs hd
  unfold Oper.wp
  simp [execOp, hop, hx, hrun, Result.andThen]
  exact hK _ _ (h r m hr)
end Go.Proofs.Ytmlocjcfcmifdaa
