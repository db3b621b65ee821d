/- Numbers in decimal, and a journal's line: contracts. The table of powers of ten is a premise where the library reads it. -/
import Derived.Test.YtldnldgndjbhfaaDoorJa
import Derived.Below
import Derived.Deep.AppendLies
import Derived.Maps.AppendAt
import Derived.Laws.IdiomStrings
import Derived.Lib.QuietBelow
import Derived.Lib.SmallJoins
import Derived.OwnWalk
namespace Go.Proofs.YtldnldgndjbhfaaDoor
open Go.RowKit Go.Sort

theorem owns_below {w w' : World} {B e n : Nat} {v : Value} {xs : List Value} {size : Nat} (h : w.ownsRow B e size v n xs) (hb : Below w.heap.size w w') : w'.ownsRow B e size v n xs :=
  h.kept (row := none) ⟨hb.os, hb.tape, hb.output, hb.size, fun k hk _ => hb.block k hk⟩ (by cases v.ownBlock <;> simp)

/-- Bytes as cells. -/
def bv (l : List UInt8) : List Value := l.map fun b => .int .u8 (b.toNat : Int)
theorem bv_length (l : List UInt8) : (bv l).length = l.length := by simp [bv]

/-- The digits that are there and the number that is left are the number's. -/
def ddOf (m : Nat) (out : List UInt8) : List UInt8 := if m = 0 ∧ out ≠ [] then out else Lib.decDigits m ++ out
theorem ddOf_step (m : Nat) (out : List UInt8) (h : ¬ (m = 0 ∧ out ≠ [])) : ddOf (m / 10) (UInt8.ofNat (48 + m % 10) :: out) = ddOf m out := by
  unfold ddOf
  rw [if_neg h]
  by_cases h10 : m < 10
  · rw [if_pos ⟨by omega, by simp⟩, Lib.decDigits_one h10, show m % 10 = m from by omega]; rfl
  · rw [if_neg (by omega)]
    conv => rhs; rw [Lib.decDigits, dif_neg h10]
    rw [List.append_assoc]; rfl
theorem ddOf_start (m : Nat) : ddOf m [] = Lib.decDigits m := by unfold ddOf; simp
theorem ddOf_done (out : List UInt8) (h : out ≠ []) : ddOf 0 out = out := by unfold ddOf; rw [if_pos ⟨rfl, h⟩]

def lenV : Value → Nat
  | .slice _ n _ => n
  | _ => 0

theorem infoByte : (Tryd.prog.info? 5).map (fun i => (i.zero, i.size, i.bytes)) = some (some (.int .u8 0), 1, 1) := by kernel_rfl

theorem owns_cells {w : World} {B e g n c : Nat} {l : List UInt8} (h : w.ownsRow B e 1 (.slice (some ⟨g, 0, none⟩) n c) n (bv l)) : ∀ j (hj : j < l.length), w.cell? ((⟨g, 0, none⟩ : Addr).add j) = some (.int .u8 (l[j].toNat : Int)) := by
  intro j hj
  exact h.cells (g := g) rfl j _ (by simp [bv, hj])

theorem byte_dig (d : Nat) (h : d < 10) : (((UInt8.ofNat (48 + d)).toNat : Nat) : Int) = 48 + (d : Int) := by
  rw [UInt8.toNat_ofNat']; omega

/-- A slice of one byte that has just been laid. -/
theorem owns_one (w : World) (B : Nat) (x : Value) (h : B ≤ w.heap.size) : (w.alloc (.cells #[x] 5)).ownsRow B 5 1 (.slice (some ⟨w.heap.size, 0, none⟩) 1 1) 1 [x] :=
  ⟨rfl, .inr ⟨w.heap.size, 1, #[x], rfl, h, heap_alloc_new w _, Nat.le_refl _, by unfold maxLen; omega, rfl, rfl⟩⟩

/-- Behind a call's own new row, a row that it made before is as it was. -/
theorem own_other {w w' : World} {B e n size g c m : Nat} {xs : List Value} (h : w.ownsRow B e size (.slice (some ⟨g, 0, none⟩) m c) n xs) {r : Nat} (hg : w.grownBy w' (some r)) (hne : g ≠ r) : w'.ownsRow B e size (.slice (some ⟨g, 0, none⟩) m c) n xs :=
  h.kept hg (.inr (fun e => by cases e; exact hne rfl))

set_option maxHeartbeats 2000000 in
theorem l01Dec_any (n : Nat) (w : World) (hn : n ≤ 65002) :
    Calls Tryd.prog 19 #[.int .i64 n] w fun e w' => e = .returned (.string ⟨(Lib.itoa n).toArray⟩) ∧ Below w.heap.size w w' := by
  have hneg : decide ((n : Int) < 0) = false := by simp
  obtain ⟨i0, hi, hz0, hz1, hz2⟩ := info_parts infoByte
  have HI := keep hi
  have HZ0 := keep hz0
  have HZ1 := keep hz1
  have HZ2 := keep hz2
  clear hi hz0 hz1 hz2
  go_enter Tryd.func19, Tryd.ntmps19
  go_wp2_with fail
  go_loopw [3, 4] (fun v r wr => ∃ (m : Nat) (out : List UInt8) (g c : Nat), r = .int .i64 m ∧ m ≤ 65002 ∧ v = .slice (some ⟨g, 0, none⟩) out.length c ∧ g < wr.heap.size ∧ Kept (wr.ownsRow w.heap.size 5 1 (.slice (some ⟨g, 0, none⟩) out.length c) out.length (bv out)) ∧ Kept (ddOf m out = Lib.decDigits n) ∧ out.length + m ≤ 65002 ∧ Below w.heap.size w wr) (fun v r _ => (if lenV v = 0 then 1 else 0) + (intOf r).toNat)
  case atStart =>
    refine ⟨n, [], w.heap.size, 0, rfl, hn, rfl, by simp, keep ?_, keep (ddOf_start n), by simpa using hn, by go_grown⟩
    exact World.ownsRow_made w #[] 0 (Nat.le_refl _) (by unfold maxLen; omega) rfl
  case round =>
    obtain ⟨m, out, g, c, rfl, hm, rfl, hg, ho, hd, hl, hb⟩ := hrel
    by_cases hstop : m = 0 ∧ out ≠ []
    case pos =>
      obtain ⟨rfl, hout⟩ := hstop
      have hd' : Lib.itoa n = out := by rw [Lib.itoa_nonneg, ← hd.out, ddOf_done out hout]
      have HD := keep hd'
      have hl0 : ((out.length : Int) == 0) = false := by
        rw [beq_eq_false_iff_ne]; intro h; exact hout (List.eq_nil_of_length_eq_zero (by omega))
      have hm0 : (((0 : Nat) : Int) != 0) = false := rfl
      have hm1 : ((0 : Int) != 0) = false := rfl
      have hconv := fun (dst src : TypeId) hs he hd => run_convert_bytes_back (P := Tryd.prog) wr src dst 5 ⟨g, 0, none⟩ c out hs he hd (owns_cells ho.out)
      have hcv := hconv 9 22 Tryd.underlying22 Tryd.underlying5 Tryd.underlying9
      clear hconv hd'
      go_wp2_with fail
      go_ret
      exact ⟨by rw [HD.out]; rfl, hb⟩
    case neg =>
      have hds := ddOf_step m out hstop
      have HD := keep (hds.trans hd.out)
      have hor : ((out.length : Int) == 0) = true ∨ (((out.length : Int) == 0) = false ∧ ((m : Int) != 0) = true) := by
        by_cases h0 : out = []
        · left; simp [h0]
        · right
          refine ⟨?_, ?_⟩
          · rw [beq_eq_false_iff_ne]; intro h; exact h0 (List.eq_nil_of_length_eq_zero (by omega))
          · rw [bne_iff_ne]; intro h; exact hstop ⟨by omega, h0⟩
      have HNS := keep (show 1 ≤ m ∨ out.length = 0 from by
        by_cases h0 : out = []
        · right; simp [h0]
        · left; exact Nat.pos_of_ne_zero fun e => hstop ⟨e, h0⟩)
      clear hds hd hstop
      have hd0 : decide ((m : Int) % 10 < 0) = false := by simp; omega
      have hdb : (m : Int) % 10 < 10 := by omega
      have hdb0 : 0 ≤ (m : Int) % 10 := by omega
      have hu8 : IntKind.u8.wrap (48 + (m : Int) % 10) = 48 + (m : Int) % 10 := IntWalk.u8_in _ ⟨by omega, by omega⟩
      have hs0 := hb.size
      rcases hor with h1 | ⟨h1, h2⟩
      all_goals
        go_wp2_with ((at_builtin; go_loud (refine wpList_append_own _ rfl (.tmp 24) (.tmp 25) 22 rfl w.heap.size 5 i0 _ 1 1 Tryd.underlying22 HI.out HZ0.out HZ1.out HZ2.out rfl (by decide) (.slice (some ⟨wr.heap.size, 0, none⟩) 1 1) 1 [.int .u8 (48 + (m : Int) % 10)] rfl (owns_one wr _ _ hs0) ⟨g, 0, none⟩ out.length c (bv out) rfl (by simp [bv]) ?c1 ?c2 ?c3 ?c4 ?c5 ?_)))
        case c1 => exact fun j u hu => (ho.out.alloc _).cells (g := g) rfl j u hu
        case c2 => intro u hu; simp only [bv, List.mem_map] at hu; obtain ⟨b, _, rfl⟩ := hu; rfl
        case c3 => unfold maxLen; omega
        case c4 => omega
        case c5 => simp only [World.size_alloc]; omega
        intro v' w4 hown' hgrow _
        obtain ⟨g', cap', rfl, hB', hlt'⟩ := hown'.form (by omega)
        have hb4 := (hb.alloc hs0 (.cells #[.int .u8 (48 + (m : Int) % 10)] 5)).grown hgrow (by simp only [World.size_alloc]; omega) (fun k e => by cases e; exact hs0)
        have e1 : Value.int .u8 (48 + (m : Int) % 10) :: bv out = bv (UInt8.ofNat (48 + m % 10) :: out) := by
          have := byte_dig (m % 10) (by omega)
          simp only [bv, List.map_cons, this]
          simp
        rw [e1] at hown'
        have HO := keep hown'
        clear hown' hgrow e1
        go_wp2_with fail
        go_roundw
        case rel => exact ⟨m / 10, UInt8.ofNat (48 + m % 10) :: out, g', cap', by simp, by omega, by simp [Nat.add_comm], hlt', keep (by have := HO.out; simpa [Nat.add_comm] using this), HD, by simp; first | omega | (have := HNS.out; omega), hb4⟩
        case measure =>
          have h9 := HNS.out
          simp [intOf, lenV]
          rcases h9 with h9 | h9
          · split <;> omega
          · rw [if_pos (List.eq_nil_of_length_eq_zero h9)]; omega

theorem pow10_stays {w w' : World} {B : Nat} (h : Lib.TabIs Tryd.prog w "internal/strconv.uint64pow10" .u64 Lib.pow10Tab) (hb : Below B w w') (hB : w.heap.size ≤ B) : Lib.TabIs Tryd.prog w' "internal/strconv.uint64pow10" .u64 Lib.pow10Tab :=
  Joins.tab_stays (g := 2) (by kernel_rfl) h hb hB

theorem Decimal_any (n : Nat) (w : World) (hn : n ≤ 65002) (htab : Lib.TabIs Tryd.prog w "internal/strconv.uint64pow10" .u64 Lib.pow10Tab) :
    Calls Tryd.prog 32 #[.int .i64 n] w fun e w' => e = .returned (.string ⟨(Lib.itoa n).toArray⟩) ∧ Below w.heap.size w w' := by
  have HC := keep (Tryd.strconv_FormatInt_10 (n : Int) (by omega) (by omega) w htab)
  clear htab
  go_enter Tryd.func32, Tryd.ntmps32
  go_wp2_with fail
  refine HC.out.mono ?_
  rintro e w' ⟨rfl, k, os, rfl⟩
  have hb : Below w.heap.size w (grow (w.drewN k) os) := ⟨rfl, rfl, rfl, by simp [grow], fun j hj => heap_grow_old (w.drewN k) os hj⟩
  generalize grow (w.drewN k) os = w' at *
  go_wp2_with fail
  go_ret
  exact ⟨rfl, hb⟩
end Go.Proofs.YtldnldgndjbhfaaDoor
