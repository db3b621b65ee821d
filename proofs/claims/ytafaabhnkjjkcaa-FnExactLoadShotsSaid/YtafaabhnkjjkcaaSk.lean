/- Words for marks laid over slices of clouds. -/
import Derived.Test.YtafaabhnkjjkcaaSi0
namespace Go.Proofs.Ytafaabhnkjjkcaa
open Go.RowKit Go.Sort

/-- A marked cloud: the counter is k ahead of it; it has n particles. -/
def markCD (k n : Nat) : CD := ⟨k, k + 1, marksFrom (k + 2) n, floatOfInt .f32 ((k + 2 + 4 * n : Nat) : Int), floatOfInt .f32 ((k + 3 + 4 * n : Nat) : Int)⟩
/-- The first i clouds are marked. -/
def markL : Nat → Nat → List (CD × Value) → List (CD × Value)
  | 0, _, xs => xs
  | _ + 1, _, [] => []
  | i + 1, k, (c, u) :: xs => (markCD k c.ps.length, u) :: markL i (k + 4 + 4 * c.ps.length) xs
/-- The counter behind the first i clouds. -/
def kAt : Nat → Nat → List (CD × Value) → Nat
  | 0, k, _ => k
  | _ + 1, k, [] => k
  | i + 1, k, (c, _) :: xs => kAt i (k + 4 + 4 * c.ps.length) xs

theorem markL_length (i k : Nat) (xs : List (CD × Value)) : (markL i k xs).length = xs.length := by
  induction xs generalizing i k with
  | nil => cases i <;> rfl
  | cons x xs ih =>
    cases i with
    | zero => rfl
    | succ i => simp [markL, ih]
theorem markL_at (i k : Nat) (xs : List (CD × Value)) (h : i < xs.length) : (markL i k xs)[i]'(by rw [markL_length]; exact h) = xs[i] := by
  induction xs generalizing i k with
  | nil => cases h
  | cons x xs ih =>
    cases i with
    | zero => rfl
    | succ i =>
      simp only [markL, List.getElem_cons_succ]
      exact ih i _ (by simpa using h)
theorem markL_set (i k : Nat) (xs : List (CD × Value)) (h : i < xs.length) : (markL i k xs).set i (markCD (kAt i k xs) xs[i].1.ps.length, xs[i].2) = markL (i + 1) k xs := by
  induction xs generalizing i k with
  | nil => cases h
  | cons x xs ih =>
    cases i with
    | zero => rfl
    | succ i =>
      have h' : i < xs.length := by simpa using h
      have e := ih i (k + 4 + 4 * x.1.ps.length) h'
      simp only [markL, kAt, List.getElem_cons_succ, List.set_cons_succ]
      rw [e]
theorem kAt_succ (i k : Nat) (xs : List (CD × Value)) (h : i < xs.length) : kAt (i + 1) k xs = kAt i k xs + 4 + 4 * xs[i].1.ps.length := by
  induction xs generalizing i k with
  | nil => cases h
  | cons x xs ih =>
    cases i with
    | zero => rfl
    | succ i =>
      have h' : i < xs.length := by simpa using h
      exact ih i (k + 4 + 4 * x.1.ps.length) h'
theorem kAt_le (i k : Nat) (xs : List (CD × Value)) (h : ∀ x ∈ xs, x.1.ps.length ≤ 48) : kAt i k xs ≤ k + 196 * i := by
  induction xs generalizing i k with
  | nil => cases i <;> simp [kAt]
  | cons x xs ih =>
    cases i with
    | zero => simp [kAt]
    | succ i =>
      have h1 := h x List.mem_cons_self
      have h2 := ih i (k + 4 + 4 * x.1.ps.length) (fun y hy => h y (List.mem_cons_of_mem _ hy))
      show kAt i (k + 4 + 4 * x.1.ps.length) xs ≤ _
      omega
theorem markL_full (n i k : Nat) (xs : List (CD × Value)) (hn : n ≤ xs.length) (h : i < n) : (markL n k xs)[i]'(by rw [markL_length]; omega) = (markCD (kAt i k xs) (xs[i]'(by omega)).1.ps.length, (xs[i]'(by omega)).2) := by
  induction xs generalizing n i k with
  | nil => simp at hn; omega
  | cons x xs ih =>
    cases n with
    | zero => omega
    | succ n =>
      have hn' : n ≤ xs.length := by simpa using hn
      cases i with
      | zero => rfl
      | succ i =>
        have e := ih n i (k + 4 + 4 * x.1.ps.length) hn' (by omega)
        simp only [markL, kAt, List.getElem_cons_succ]
        exact e
theorem marked_all (n k : Nat) (xs : List (CD × Value)) : ∀ i (h : i < (markL n k xs).length) (h' : i < xs.length), ((markL n k xs)[i]).1.ps.length = xs[i].1.ps.length ∧ ((markL n k xs)[i]).2 = xs[i].2 := by
  induction xs generalizing n k with
  | nil => intro i h h'; cases h'
  | cons x xs ih =>
    intro i h h'
    cases n with
    | zero => exact ⟨rfl, rfl⟩
    | succ n =>
      cases i with
      | zero => exact ⟨by simp [markL, markCD, marksFrom_length], rfl⟩
      | succ i => exact ih n _ i (by simpa [markL] using h) (by simpa using h')

theorem set_five (a b c d e : Value) (l : List Value) (i j : Nat) (v : Value) : (a :: b :: c :: d :: e :: l).set ((i + 1) * 5 + j) v = a :: b :: c :: d :: e :: l.set (i * 5 + j) v := by
  rw [show (i + 1) * 5 + j = (i * 5 + j) + 1 + 1 + 1 + 1 + 1 by omega]
  simp only [List.set_cons_succ]
theorem cCells_set (xs : List (CD × Value)) (i : Nat) (h : i < xs.length) (c : CD) :
    ((((cCells xs).set (i * 5) (.int .i64 c.wd)).set (i * 5 + 1) (.int .i64 c.hg)).set (i * 5 + 3) (.float .f32 c.mg)).set (i * 5 + 4) (.float .f32 c.bk) = cCells (xs.set i (c, xs[i].2)) := by
  induction xs generalizing i with
  | nil => cases h
  | cons x xs ih =>
    have e : ∀ (y : CD × Value) ys, cCells (y :: ys) = .int .i64 y.1.wd :: .int .i64 y.1.hg :: y.2 :: .float .f32 y.1.mg :: .float .f32 y.1.bk :: cCells ys := fun y ys => rfl
    cases i with
    | zero => rfl
    | succ i =>
      have h' : i < xs.length := by simpa using h
      rw [e]
      have e0 := fun (l : List Value) (a b c d e v : Value) => set_five a b c d e l i 0 v
      simp only [Nat.add_zero] at e0
      rw [e0, set_five, set_five, set_five, ih i h']
      rfl

theorem OwnS.cell {w : World} {B g n c : Nat} {xs : List (CD × Value)} (h : OwnS w B (.slice (some ⟨g, 0, none⟩) n c) xs) (i : Nat) (hi : i < xs.length) (j : Nat) (u : Value) (hj : j < 5) (hu : (xs[i].1.vals xs[i].2)[j]? = some u) : w.cell? ⟨g, i * 5 + j, none⟩ = some u := by
  have hr := h.row
  obtain ⟨a, k, e⟩ := owns_slice hr
  injection e with _ e2 _
  subst e2
  exact owns5_cell hr (by rw [cCells_at xs i hi j hj]; exact hu)

/-- Stores into the row of clouds, all but its particles' slice. -/
theorem OwnS.store {w : World} {B g n c : Nat} {xs : List (CD × Value)} (h : OwnS w B (.slice (some ⟨g, 0, none⟩) n c) xs) (j : Nat) (u : Value) :
    (w.setCell ⟨g, j, none⟩ u).ownsRow B 34 5 (.slice (some ⟨g, 0, none⟩) n c) xs.length ((cCells xs).set j u) ∧ ∀ i (hi : i < xs.length), (w.setCell ⟨g, j, none⟩ u).ownsRow B 25 4 xs[i].2 xs[i].1.ps.length (psCells xs[i].1.ps) := by
  obtain ⟨a, k, e⟩ := owns_slice h.row
  injection e with _ e2 _
  subst e2
  refine ⟨(h.row.stored j u).1, fun i hi => own_set (h.each i hi) ?_ u⟩
  intro e
  exact rows_ne h.row (h.each i hi) g e rfl

structure RowsS (w : World) (B g c : Nat) (xs : List (CD × Value)) (cells : List Value) : Prop where
  row : w.ownsRow B 34 5 (.slice (some ⟨g, 0, none⟩) xs.length c) xs.length cells
  each : ∀ i (hi : i < xs.length), w.ownsRow B 25 4 xs[i].2 xs[i].1.ps.length (psCells xs[i].1.ps)
theorem RowsS.store {w : World} {B g c : Nat} {xs : List (CD × Value)} {cells : List Value} (h : RowsS w B g c xs cells) (j : Nat) (u : Value) : RowsS (w.setCell ⟨g, j, none⟩ u) B g c xs (cells.set j u) :=
  ⟨(h.row.stored j u).1, fun i hi => own_set (h.each i hi) (fun e => rows_ne h.row (h.each i hi) g e rfl) u⟩
theorem RowsS.le {w : World} {B g c : Nat} {xs : List (CD × Value)} {cells : List Value} (h : RowsS w B g c xs cells) : B ≤ g ∧ g < w.heap.size := h.row.lt g rfl
/-- Blocks of shots stand. -/
def KeepsShots (w w' : World) : Prop := ∀ g cs, Has w g 43 cs → Has w' g 43 cs
theorem KeepsShots.refl (w : World) : KeepsShots w w := fun _ _ h => h
theorem KeepsShots.trans {a b c : World} (h : KeepsShots a b) (k : KeepsShots b c) : KeepsShots a c := fun g cs hh => k g cs (h g cs hh)
theorem has_type {w : World} {g : Nat} {t u : TypeId} {cs ds : Array Value} (h : Has w g t cs) (k : Has w g u ds) : t = u := by
  have e : some (Obj.cells cs t (0, 0)) = some (Obj.cells ds u (0, 0)) := h.symm.trans k
  injection e with e
  injection e
theorem RowsS.keeps {w : World} {B g c : Nat} {xs : List (CD × Value)} {cells : List Value} (h : RowsS w B g c xs cells) (j : Nat) (u : Value) : KeepsShots w (w.setCell ⟨g, j, none⟩ u) := fun g' cs hh =>
  hh.elsewhere (fun e => own_ne h.row hh (by decide) (by show some g = some g'; rw [show g' = g from e])) u
theorem keeps_grown {w w2 : World} {B n : Nat} {u : Value} {cl : List Value} (h : w.ownsRow B 25 4 u n cl) (hg : w.grownBy w2 u.ownBlock) : KeepsShots w w2 := fun g' _ hh =>
  Has.grown hh hg (own_ne h hh (by decide))
/-- One cloud is marked. -/
theorem OwnS.step {w w2 : World} {B g c : Nat} {xs : List (CD × Value)} (h : OwnS w B (.slice (some ⟨g, 0, none⟩) xs.length c) xs) (i : Nat) (hi : i < xs.length) (d : CD) (hl : d.ps.length = xs[i].1.ps.length)
    (hg : ((w.setCell ⟨g, i * 5, none⟩ (.int .i64 d.wd)).setCell ⟨g, i * 5 + 1, none⟩ (.int .i64 d.hg)).grownBy w2 xs[i].2.ownBlock) (hp : w2.ownsRow B 25 4 xs[i].2 d.ps.length (psCells d.ps)) :
    OwnS ((w2.setCell ⟨g, i * 5 + 3, none⟩ (.float .f32 d.mg)).setCell ⟨g, i * 5 + 4, none⟩ (.float .f32 d.bk)) B (.slice (some ⟨g, 0, none⟩) xs.length c) (xs.set i (d, xs[i].2)) ∧
      Below B w ((w2.setCell ⟨g, i * 5 + 3, none⟩ (.float .f32 d.mg)).setCell ⟨g, i * 5 + 4, none⟩ (.float .f32 d.bk)) ∧
      KeepsShots w ((w2.setCell ⟨g, i * 5 + 3, none⟩ (.float .f32 d.mg)).setCell ⟨g, i * 5 + 4, none⟩ (.float .f32 d.bk)) := by
  have r0 : RowsS w B g c xs (cCells xs) := ⟨h.row, h.each⟩
  have r1 := (r0.store (i * 5) (.int .i64 d.wd)).store (i * 5 + 1) (.int .i64 d.hg)
  have hBg := r0.le
  have k1 := (r0.keeps (i * 5) (.int .i64 d.wd)).trans ((r0.store (i * 5) (.int .i64 d.wd)).keeps (i * 5 + 1) (.int .i64 d.hg))
  generalize hw1 : (w.setCell ⟨g, i * 5, none⟩ (.int .i64 d.wd)).setCell ⟨g, i * 5 + 1, none⟩ (.int .i64 d.hg) = w1 at *
  have b1 : Below B w w1 := by rw [← hw1]; exact ((Below.refl B w).setCell (p := ⟨g, i * 5, none⟩) hBg.1 _).setCell (p := ⟨g, i * 5 + 1, none⟩) hBg.1 _
  have rrow := owns_other r1.row hg (fun g' e => by
    injection e with e
    subst e
    intro e2
    exact rows_ne r0.row (r0.each i hi) g e2 rfl)
  have reach : ∀ j (hj : j < xs.length), j ≠ i → w2.ownsRow B 25 4 xs[j].2 xs[j].1.ps.length (psCells xs[j].1.ps) := fun j hj hji => owns_other (r1.each j hj) hg (fun g' e e2 => h.apart i j hi hj (Ne.symm hji) g' e2 e)
  have b2 : Below B w w2 := b1.grown hg (by rw [← hw1]; simp; omega) (fun g' e => ((h.each i hi).lt g' e).1)
  have k2 := k1.trans (keeps_grown (r1.each i hi) hg)
  have k3 : KeepsShots w2 ((w2.setCell ⟨g, i * 5 + 3, none⟩ (.float .f32 d.mg)).setCell ⟨g, i * 5 + 4, none⟩ (.float .f32 d.bk)) := fun g' cs hh =>
    have hne : g' ≠ g := fun e => own_ne rrow hh (by decide) (by show some g = some g'; rw [e])
    (hh.elsewhere (p := ⟨g, i * 5 + 3, none⟩) hne _).elsewhere (p := ⟨g, i * 5 + 4, none⟩) hne _
  have cs := cCells_set xs i hi d
  have hlen : (xs.set i (d, xs[i].2)).length = xs.length := by simp
  refine ⟨⟨?_, ?_, ?_⟩, (b2.setCell (p := ⟨g, i * 5 + 3, none⟩) hBg.1 _).setCell (p := ⟨g, i * 5 + 4, none⟩) hBg.1 _, k2.trans k3⟩
  · rw [hlen, ← cs]
    exact ((rrow.stored (i * 5 + 3) _).1.stored (i * 5 + 4) _).1
  · intro j hj
    have hj' : j < xs.length := by rw [hlen] at hj; exact hj
    have ne2 : ∀ {u : Value} {m : Nat} {cl : List Value}, w2.ownsRow B 25 4 u m cl → ((w2.setCell ⟨g, i * 5 + 3, none⟩ (.float .f32 d.mg)).setCell ⟨g, i * 5 + 4, none⟩ (.float .f32 d.bk)).ownsRow B 25 4 u m cl := fun {u m cl} hh =>
      own_set (own_set hh (fun e => rows_ne rrow hh g e rfl) _) (fun e => rows_ne rrow hh g e rfl) _
    by_cases hji : j = i
    · subst hji
      simp only [List.getElem_set_self]
      exact ne2 hp
    · rw [List.getElem_set_ne (Ne.symm hji)]
      exact ne2 (reach j hj' hji)
  · intro a b ha hb hab g' hga
    have ha' : a < xs.length := by rw [hlen] at ha; exact ha
    have hb' : b < xs.length := by rw [hlen] at hb; exact hb
    have e2 : ∀ j (hj : j < xs.length), ((xs.set i (d, xs[i].2))[j]'(by rw [hlen]; exact hj)).2 = xs[j].2 := fun j hj => by
      by_cases hji : j = i
      · subst hji; simp
      · rw [List.getElem_set_ne (Ne.symm hji)]
    rw [e2 a ha'] at hga
    rw [e2 b hb']
    exact h.apart a b ha' hb' hab g' hga

theorem row_old {w w' : World} {B0 B e size n : Nat} {v : Value} {xs : List Value} (h : w.ownsRow B0 e size v n xs) (hv : ∀ g, v.ownBlock = some g → g < B) (hb : Below B w w') : w'.ownsRow B0 e size v n xs := by
  refine ⟨h.1, ?_⟩
  rcases h.2 with h' | ⟨g, cap, cur, rfl, hB, hh, h3⟩
  · exact .inl h'
  · exact .inr ⟨g, cap, cur, rfl, hB, (hb.block g (hv g rfl)).trans hh, h3⟩
/-- Clouds in old blocks stand. -/
theorem OwnS.old {w w' : World} {B0 B : Nat} {v : Value} {xs : List (CD × Value)} (h : OwnS w B0 v xs) (hv : ∀ g, v.ownBlock = some g → g < B) (hu : ∀ (i : Nat) (hi : i < xs.length) (g : Nat), xs[i].2.ownBlock = some g → g < B) (hb : Below B w w') : OwnS w' B0 v xs :=
  ⟨row_old h.row hv hb, fun i hi => row_old (h.each i hi) (hu i hi) hb, h.apart⟩
end Go.Proofs.Ytafaabhnkjjkcaa
