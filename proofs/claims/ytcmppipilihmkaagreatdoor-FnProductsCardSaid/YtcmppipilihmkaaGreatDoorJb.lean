/- Numbers in decimal, and a journal's line: contracts. The table of powers of ten is a premise where the library reads it. -/
import Derived.Test.YtcmppipilihmkaaGreatDoorJa
import Derived.Below
import Derived.Deep.AppendLies
import Derived.Maps.AppendAt
import Derived.Laws.IdiomStrings
import Derived.Lib.QuietBelow
import Derived.Lib.SmallJoins
import Derived.OwnWalk
namespace Go.Proofs.YtcmppipilihmkaaGreatDoor
open Go.RowKit Go.Sort

theorem owns_below {w w' : World} {B e n : Nat} {v : Value} {xs : List Value} {size : Nat} (h : w.ownsRow B e size v n xs) (hb : Below w.heap.size w w') : w'.ownsRow B e size v n xs :=
  h.kept (row := none) ⟨hb.os, hb.tape, hb.output, hb.size, fun k hk _ => hb.block k hk⟩ (by cases v.ownBlock <;> simp)

/-- Bytes as cells. -/
def bv (l : List UInt8) : List Value := l.map fun b => .int .u8 (b.toNat : Int)
theorem bv_length (l : List UInt8) : (bv l).length = l.length := by simp [bv]

/-- The digits that are there and the number that is left are the number's. -/
def ddOf (m : Nat) (out : List UInt8) : List UInt8 := if m = 0 ∧ out ≠ [] then out else Lib.decDigits m ++ out
theorem ddOf_step (m : Nat) (out : List UInt8) (h : ¬ (m = 0 ∧ out ≠ [])) : ddOf (m / 10) (UInt8.ofNat (48 + m % 10) :: out) = ddOf m out := by
  unfold ddOf
  rw [if_neg h]
  by_cases h10 : m < 10
  · rw [if_pos ⟨by omega, by simp⟩, Lib.decDigits_one h10, show m % 10 = m from by omega]; rfl
  · rw [if_neg (by omega)]
    conv => rhs; rw [Lib.decDigits, dif_neg h10]
    rw [List.append_assoc]; rfl
theorem ddOf_start (m : Nat) : ddOf m [] = Lib.decDigits m := by unfold ddOf; simp
theorem ddOf_done (out : List UInt8) (h : out ≠ []) : ddOf 0 out = out := by unfold ddOf; rw [if_pos ⟨rfl, h⟩]

def lenV : Value → Nat
  | .slice _ n _ => n
  | _ => 0

theorem infoByte : (Tryz.prog.info? 5).map (fun i => (i.zero, i.size, i.bytes)) = some (some (.int .u8 0), 1, 1) := by kernel_rfl

theorem owns_cells {w : World} {B e g n c : Nat} {l : List UInt8} (h : w.ownsRow B e 1 (.slice (some ⟨g, 0, none⟩) n c) n (bv l)) : ∀ j (hj : j < l.length), w.cell? ((⟨g, 0, none⟩ : Addr).add j) = some (.int .u8 (l[j].toNat : Int)) := by
  intro j hj
  exact h.cells (g := g) rfl j _ (by simp [bv, hj])

theorem byte_dig (d : Nat) (h : d < 10) : (((UInt8.ofNat (48 + d)).toNat : Nat) : Int) = 48 + (d : Int) := by
  rw [UInt8.toNat_ofNat']; omega

/-- A slice of one byte that has just been laid. -/
theorem owns_one (w : World) (B : Nat) (x : Value) (h : B ≤ w.heap.size) : (w.alloc (.cells #[x] 5)).ownsRow B 5 1 (.slice (some ⟨w.heap.size, 0, none⟩) 1 1) 1 [x] :=
  ⟨rfl, .inr ⟨w.heap.size, 1, #[x], rfl, h, heap_alloc_new w _, Nat.le_refl _, by unfold maxLen; omega, rfl, rfl⟩⟩

/-- Behind a call's own new row, a row that it made before is as it was. -/
theorem own_other {w w' : World} {B e n size g c m : Nat} {xs : List Value} (h : w.ownsRow B e size (.slice (some ⟨g, 0, none⟩) m c) n xs) {r : Nat} (hg : w.grownBy w' (some r)) (hne : g ≠ r) : w'.ownsRow B e size (.slice (some ⟨g, 0, none⟩) m c) n xs :=
  h.kept hg (.inr (fun e => by cases e; exact hne rfl))

theorem pow10_stays {w w' : World} {B : Nat} (h : Lib.TabIs Tryz.prog w "internal/strconv.uint64pow10" .u64 Lib.pow10Tab) (hb : Below B w w') (hB : w.heap.size ≤ B) : Lib.TabIs Tryz.prog w' "internal/strconv.uint64pow10" .u64 Lib.pow10Tab :=
  Joins.tab_stays (g := 1) (by kernel_rfl) h hb hB

end Go.Proofs.YtcmppipilihmkaaGreatDoor
