/- Slices of clouds whose particles are rows of their own: words, and what the law's helper for equality says of them. -/
import Derived.Test.YtafaabhnkjjkcaaLawLoad
import Derived.Test.YtafaabhnkjjkcaaSa
namespace Go.Proofs.Ytafaabhnkjjkcaa
open Go.RowKit Go.Sort

/-- A cloud's cells, its particles' slice being v. -/
def CD.vals (c : CD) (v : Value) : List Value := [.int .i64 c.wd, .int .i64 c.hg, v, .float .f32 c.mg, .float .f32 c.bk]
def cCells (xs : List (CD × Value)) : List Value := xs.flatMap fun x => x.1.vals x.2
theorem cCells_length (xs : List (CD × Value)) : (cCells xs).length = xs.length * 5 := by
  induction xs with
  | nil => rfl
  | cons x xs ih => simp only [cCells, List.flatMap_cons, List.length_append, List.length_cons] at *; rw [ih]; simp [CD.vals]; omega
theorem cCells_at (xs : List (CD × Value)) : ∀ (i : Nat) (h : i < xs.length) (j : Nat), j < 5 → (cCells xs)[i * 5 + j]? = (xs[i].1.vals xs[i].2)[j]? := by
  induction xs with
  | nil => intro i h; cases h
  | cons x xs ih =>
    intro i h j hj
    simp only [cCells, List.flatMap_cons]
    have hp : (x.1.vals x.2).length = 5 := rfl
    cases i with
    | zero =>
      rw [List.getElem?_append_left (by omega)]
      simp
    | succ i =>
      rw [List.getElem?_append_right (by omega), hp]
      have h' : i < xs.length := by simpa using h
      rw [show (i + 1) * 5 + j - 5 = i * 5 + j from by omega]
      exact ih i h' j hj

/-- The slice v holds these clouds; each one's particles lie in a row of its own. -/
structure OwnS (w : World) (B : Nat) (v : Value) (xs : List (CD × Value)) : Prop where
  row : w.ownsRow B 34 5 v xs.length (cCells xs)
  each : ∀ i (h : i < xs.length), w.ownsRow B 25 4 xs[i].2 xs[i].1.ps.length (psCells xs[i].1.ps)
  apart : ∀ i j (hi : i < xs.length) (hj : j < xs.length), i ≠ j → ∀ g, xs[i].2.ownBlock = some g → xs[j].2.ownBlock ≠ some g

theorem OwnS.nil_ (w : World) (B : Nat) : OwnS w B (.slice none 0 0) [] := ⟨World.ownsRow_nil _ _ _ _, (fun i h => by cases h), (fun i j h => by cases h)⟩
theorem OwnS.below {w w' : World} {B : Nat} {v : Value} {xs : List (CD × Value)} (h : OwnS w B v xs) (hb : Below w.heap.size w w') : OwnS w' B v xs :=
  ⟨owns_below h.row hb, fun i hi => owns_below (h.each i hi) hb, h.apart⟩
theorem OwnS.alloc {w : World} {B : Nat} {v : Value} {xs : List (CD × Value)} (h : OwnS w B v xs) (o : Obj) : OwnS (w.alloc o) B v xs :=
  ⟨h.row.alloc o, fun i hi => (h.each i hi).alloc o, h.apart⟩
theorem OwnS.mono {w : World} {B B' : Nat} {v : Value} {xs : List (CD × Value)} (h : OwnS w B v xs) (hB : B' ≤ B) : OwnS w B' v xs :=
  ⟨h.row.mono hB, fun i hi => (h.each i hi).mono hB, h.apart⟩
/-- Is a cloud's every number finite? -/
def CD.fin (c : CD) : Bool := c.ps.all PD.fin && (Go.Proofs.Ytafaabhnkjjkcaa.fin .f32 c.mg && Go.Proofs.Ytafaabhnkjjkcaa.fin .f32 c.bk)

theorem owns5_cell {w : World} {B e g n cap : Nat} {xs : List Value} (h : w.ownsRow B e 5 (.slice (some ⟨g, 0, none⟩) n cap) n xs) {j : Nat} {u : Value} (hu : xs[j]? = some u) : w.cell? ⟨g, j, none⟩ = some u := by
  have h2 := h.cells (g := g) rfl j u hu
  rwa [Addr.add_lit, Nat.zero_add] at h2

theorem owns_slice {w : World} {B e size n : Nat} {v : Value} {xs : List Value} (h : w.ownsRow B e size v n xs) : ∃ a c, v = .slice a n c := by
  rcases h.2 with ⟨rfl, h0⟩ | ⟨g, cap, cur, rfl, _⟩
  · exact ⟨none, 0, by rw [h0]⟩
  · exact ⟨_, _, rfl⟩
theorem owns_at {w : World} {B e size n c : Nat} {a : Option Addr} {xs : List Value} (h : w.ownsRow B e size (.slice a n c) n xs) (h0 : 0 < n) : ∃ g, a = some ⟨g, 0, none⟩ ∧ B ≤ g ∧ g < w.heap.size := by
  obtain ⟨g, cap, hv, h1, h2⟩ := h.form h0
  exact ⟨g, by injection hv, h1, h2⟩

end Go.Proofs.Ytafaabhnkjjkcaa
