/- Lists of texts: what the law's helpers do with them; a journal's line. The table of powers of ten is a premise where the library reads it. -/
import Derived.Test.YtldnldgndjbhfaaDoorJb
import Derived.RegionTactic
import Derived.Deep.QuietTactic
import Derived.BigQuiet
namespace Go.Proofs.YtldnldgndjbhfaaDoor
open Go.RowKit Go.Sort

/-- A slice at A reads as these texts, and lies below block B. -/
def Rd (w : World) (B : Nat) (A : Option Addr) (ss : List ByteArray) : Prop :=
  0 < ss.length → ∃ ad, A = some ad ∧ ad.block < B ∧ ∀ j (h : j < ss.length), w.cell? (ad.add j) = some (.string ss[j])

theorem block_of_add (a : Addr) (n : Nat) : (a.add n).block = a.block := by unfold Addr.add; split <;> rfl

theorem Rd.below {w w' : World} {B : Nat} {A : Option Addr} {ss : List ByteArray} (h : Rd w B A ss) (hb : Below B w w') : Rd w' B A ss := by
  intro h0
  obtain ⟨ad, e, hl, hc⟩ := h h0
  exact ⟨ad, e, hl, fun j hj => by rw [hb.cell (p := ad.add j) (by rw [block_of_add]; exact hl)]; exact hc j hj⟩
theorem Rd.more {w : World} {B B' : Nat} {A : Option Addr} {ss : List ByteArray} (h : Rd w B A ss) (hB : B ≤ B') : Rd w B' A ss := by
  intro h0
  obtain ⟨ad, e, hl, hc⟩ := h h0
  exact ⟨ad, e, by omega, hc⟩

/-- Texts as cells. -/
def sv (ss : List ByteArray) : List Value := ss.map .string
theorem Rd.of_own {w : World} {B e c n : Nat} {A : Option Addr} {ss : List ByteArray} (h : w.ownsRow B e 1 (.slice A n c) n (sv ss)) : Rd w w.heap.size A ss := by
  intro h0
  have hn : ss.length = n := by have := h.1; simpa [sv] using this
  obtain ⟨g, cap, hv, _, hlt⟩ := h.form (by omega)
  have hA : A = some ⟨g, 0, none⟩ := by injection hv
  subst hA
  exact ⟨_, rfl, hlt, fun j hj => h.cells (g := g) rfl j _ (by simp [sv, hj])⟩

/-- How many bytes some texts have together. -/
def tot (ss : List ByteArray) : Nat := (ss.map ByteArray.size).sum
theorem tot_take (ss : List ByteArray) (k : Nat) (h : k < ss.length) : tot (ss.take (k + 1)) = tot (ss.take k) + ss[k].size := by
  unfold tot
  rw [List.take_succ_eq_append_getElem h]
  simp only [List.map_append, List.sum_append, List.map_cons, List.map_nil, List.sum_cons, List.sum_nil, Nat.add_zero]
theorem tot_le (ss : List ByteArray) (k : Nat) : tot (ss.take k) ≤ tot ss := by
  unfold tot
  conv => rhs; rw [← List.take_append_drop k ss]
  rw [List.map_append, List.sum_append]
  omega
theorem size_le_tot (ss : List ByteArray) (s : ByteArray) (h : s ∈ ss) : s.size ≤ tot ss := by
  induction ss with
  | nil => cases h
  | cons x r ih =>
    have e : tot (x :: r) = x.size + tot r := by simp [tot]
    rcases List.mem_cons.1 h with rfl | h
    · omega
    · have := ih h; omega

/-- Not more than a million bytes, counted with one more for each text. -/
def small (ss : List ByteArray) : Prop := ss.length + tot ss ≤ 1048576

/-- What a count says that hands back what is left. -/
def Left1 (ss : List ByteArray) (w : World) (e : Ending) (w' : World) : Prop := ∃ r : Int, e = .returned (.int .i64 r) ∧ (0 ≤ r → small ss) ∧ w = w'

theorem infoString : (Tryd.prog.info? 9).map (fun i => (i.zero, i.size, i.bytes)) = some (some (.string ⟨#[]⟩), 1, 16) := by kernel_rfl

/-- What a copy of some texts is. -/
def Copied (ss : List ByteArray) (w : World) (e : Ending) (w' : World) : Prop :=
  ∃ g c, e = .returned (.slice (some ⟨g, 0, none⟩) ss.length c) ∧ w'.ownsRow w.heap.size 9 1 (.slice (some ⟨g, 0, none⟩) ss.length c) ss.length (sv ss) ∧ Below w.heap.size w w'

theorem set_next (ss : List ByteArray) (xs : List Value) (k : Nat) (hk : k < ss.length) (h : xs.length = ss.length) (ht : xs.take k = sv (ss.take k)) : (xs.set k (.string ss[k])).take (k + 1) = sv (ss.take (k + 1)) := by
  rw [List.take_succ_eq_append_getElem (by simp; omega)]
  rw [List.take_set_of_le (Nat.le_refl k), ht]
  rw [List.take_succ_eq_append_getElem hk]
  simp only [sv, List.map_append, List.map_cons, List.map_nil, List.getElem_set_self]

end Go.Proofs.YtldnldgndjbhfaaDoor
