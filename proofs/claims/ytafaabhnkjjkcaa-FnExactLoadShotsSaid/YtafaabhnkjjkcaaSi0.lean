/- Words and steps for the clouds at the beginning of a text. -/
import Derived.Test.YtafaabhnkjjkcaaSh
namespace Go.Proofs.Ytafaabhnkjjkcaa
open Go.RowKit Go.Sort

/-- The program's cloud at a place of a text. -/
def LoadT (s : ByteArray) (p : Nat) (w : World) (e : Ending) (w' : World) : Prop :=
  (goodAt s p = true → ∃ a n c, e = .returned (.tuple #[cloudV (cdAt s p).wd (cdAt s p).hg (.slice a n c) (cdAt s p).mg (cdAt s p).bk, .int .i64 (15 + 24 * nAt s p : Nat), .bool true]) ∧
    w'.ownsRow w.heap.size 25 4 (.slice a n c) (cdAt s p).ps.length (psCells (cdAt s p).ps) ∧ Below w.heap.size w w') ∧
  (goodAt s p = false → LoadNo w e w')
theorem loadTail_any (s : ByteArray) (p : Nat) (w : World) (hS : s.size ≤ 2000000) (hp : p ≤ s.size) : Calls Try.prog 47 #[.string (s.extract p s.size)] w (LoadT s p w) := by
  have hz := extract_size s p s.size (Nat.le_refl _)
  refine (loadCloud_all (s.extract p s.size) w (by omega)).mono fun e w' h => ⟨fun hg => ?_, fun hg => ?_⟩
  · rw [← goodAt_tail s p hp] at hg
    obtain ⟨a, n, c, he, ho, hb⟩ := h.1 hg
    rw [goodAt_tail s p hp] at hg
    obtain ⟨h1, h2, _⟩ := good_facts s p hg
    have h2' : p + 15 + 24 * nAt s p ≤ s.size := h2
    have q1 := byteAt_tail s p 4 (by omega)
    have q2 := byteAt_tail s p 5 (by omega)
    have q3 := numAt_tail s p 6 (by omega)
    have q4 := numAt_tail s p 10 (by omega)
    have q5 := nAt_tail s p h1
    have q6 := psAt_tail s p _ h2'
    rw [q1, q2, q3, q4, q5] at he
    rw [q5, q6] at ho
    exact ⟨a, n, c, he, ho, hb⟩
  · rw [← goodAt_tail s p hp] at hg
    exact h.2 hg

/-- What is handed back. -/
def RecRes (s : ByteArray) (w : World) (e : Ending) (w' : World) : Prop :=
  ∃ a n c xs, e = .returned (.tuple #[.agg #[.slice a n c], .int .i64 (recS s 8 0).2]) ∧ OwnS w' w.heap.size (.slice a n c) xs ∧ xs.map (·.1) = (recS s 8 0).1 ∧ Below w.heap.size w w'

theorem infoCloud : (Try.prog.info? 34).map (fun i => (i.zero, i.size, i.bytes)) = some (some (.agg #[.int .i64 0, .int .i64 0, .slice none 0 0, .float .f32 0, .float .f32 0]), 5, 48) := by kernel_rfl

theorem checkBytes_re (s : ByteArray) (e : Nat) (he : e ≤ s.size) (hS : s.size ≤ 2000000) (w : World) (d : Nat) (os : Array Obj) :
    Calls Try.prog 56 #[.string (s.extract 0 e)] (grow (redrawn w d) os) fun e' w' => e' = .returned (.string (twoB (ckAt s e))) ∧ ∃ p : Regrown, w' = grow (redrawn w p.d) p.os := by
  have hz := extract_size s 0 e he
  have h := checkBytes_any (s.extract 0 e) (grow (redrawn w d) os) (by omega)
  rw [ckAt_take s e he] at h
  exact Calls.regrown_of h
theorem prefix_re (s : ByteArray) (e : Nat) (he : e ≤ s.size) (w : World) (d : Nat) (os : Array Obj) :
    Calls Try.prog 74 #[.string (s.extract e s.size), .string (twoB (ckAt s e))] (grow (redrawn w d) os) fun e' w' => e' = .returned (.bool (ckOk s e)) ∧ ∃ p : Regrown, w' = grow (redrawn w p.d) p.os := by
  have h := Try.strings_HasPrefix (s.extract e s.size) (twoB (ckAt s e)) (grow (redrawn w d) os)
  rw [prefix_eq s e he] at h
  exact h.mono fun e' w' ⟨h1, h2⟩ => ⟨h1, ⟨⟨d, os⟩, h2⟩⟩

theorem OwnS.low {w : World} {B b i : Nat} {v : Value} {xs : List (CD × Value)} (h : OwnS w B v xs) (hb : b < B) (u : Value) : OwnS (w.setCell ⟨b, i, none⟩ u) B v xs :=
  ⟨ownsRow_setCell_below h.row hb u, fun j hj => ownsRow_setCell_below (h.each j hj) hb u, h.apart⟩
theorem rows_ne {w : World} {B1 B2 n1 n2 : Nat} {v u : Value} {xs ys : List Value} (h : w.ownsRow B1 34 5 v n1 xs) (hu : w.ownsRow B2 25 4 u n2 ys) (g : Nat) (hg : u.ownBlock = some g) : v.ownBlock ≠ some g := by
  rcases hu.2 with ⟨rfl, _⟩ | ⟨g', cap, cur, rfl, _, hh, _⟩
  · simp [Value.ownBlock] at hg
  · obtain rfl : g' = g := by simpa [Value.ownBlock] using hg
    exact own_ne h (show Has w g' 25 cur from hh) (by decide)
theorem cCells_snoc (xs : List (CD × Value)) (c : CD) (u : Value) : cCells (xs ++ [(c, u)]) = cCells xs ++ c.vals u := by
  unfold cCells; rw [List.flatMap_append]; simp
theorem OwnS.snoc {w w4 : World} {B b k : Nat} {v v' u : Value} {xs : List (CD × Value)} {cd : CD} (h : OwnS w B v xs) (hu : w.ownsRow b 25 4 u cd.ps.length (psCells cd.ps)) (hB : B ≤ b) (hk : k = xs.length)
    (hrow : w4.ownsRow B 34 5 v' (k + 1) (cCells xs ++ cd.vals u)) (hg : w.grownBy w4 v.ownBlock) (hap : ∀ (i : Nat) (hi : i < xs.length) (g : Nat), xs[i].2.ownBlock = some g → g < b) : OwnS w4 B v' (xs ++ [(cd, u)]) := by
  subst hk
  have eo : ∀ i (hi : i < xs.length), w4.ownsRow B 25 4 xs[i].2 xs[i].1.ps.length (psCells xs[i].1.ps) := fun i hi => owns_other (h.each i hi) hg (rows_ne h.row (h.each i hi))
  have en : w4.ownsRow B 25 4 u cd.ps.length (psCells cd.ps) := owns_other (hu.mono hB) hg (rows_ne h.row hu)
  refine ⟨?_, ?_, ?_⟩
  · rw [cCells_snoc, List.length_append]; exact hrow
  · intro i hi
    by_cases hlt : i < xs.length
    · rw [List.getElem_append_left hlt]; exact eo i hlt
    · have e : i = xs.length := by simp at hi; omega
      subst e
      simp only [List.getElem_append_right (Nat.le_refl _), Nat.sub_self, List.getElem_cons_zero]
      exact en
  · intro i j hi hj hij g hgi
    by_cases hlt : i < xs.length
    · rw [List.getElem_append_left hlt] at hgi
      by_cases hlt2 : j < xs.length
      · rw [List.getElem_append_left hlt2]; exact h.apart i j hlt hlt2 hij g hgi
      · have e : j = xs.length := by simp at hj; omega
        subst e
        simp only [List.getElem_append_right (Nat.le_refl _), Nat.sub_self, List.getElem_cons_zero]
        intro e2
        have h1 := hap i hlt g hgi
        have h2 := hu.lt g e2
        omega
    · have e : i = xs.length := by simp at hi; omega
      subst e
      simp only [List.getElem_append_right (Nat.le_refl _), Nat.sub_self, List.getElem_cons_zero] at hgi
      have hlt2 : j < xs.length := by simp at hj; omega
      rw [List.getElem_append_left hlt2]
      intro e2
      have h1 := hap j hlt2 g e2
      have h2 := hu.lt g hgi
      omega
theorem OwnS.blocks {w : World} {B : Nat} {v : Value} {xs : List (CD × Value)} (h : OwnS w B v xs) (i : Nat) (hi : i < xs.length) (g : Nat) (hg : xs[i].2.ownBlock = some g) : g < w.heap.size := ((h.each i hi).lt g hg).2
theorem five_new {w : World} {g : Nat} {t : TypeId} {x0 x1 x2 x3 x4 : Value} (h : Has w g t #[x0, x1, x2, x3, x4]) : ∀ j u, [x0, x1, x2, x3, x4][j]? = some u → w.cell? ((⟨g, 0, none⟩ : Addr).add j) = some u := by
  intro j u hj
  rw [Addr.add_lit, Nat.zero_add, h.cells]
  simpa using hj
theorem RecRes.of {s : ByteArray} {w w' : World} {a : Option Addr} {k c f p : Nat} {xs : List (CD × Value)} (hr : recS s 8 0 = (xs.map (·.1) ++ (recS s f p).1, (recS s f p).2)) (hn : recS s f p = ([], p)) (ho : OwnS w' (w.heap.size + 2) (.slice a k c) xs) (hb : Below w.heap.size w w') :
    RecRes s w (.returned (.tuple #[.agg #[.slice a k c], .int .i64 p])) w' := by
  rw [hn, List.append_nil] at hr
  exact ⟨a, k, c, xs, by rw [hr], ho.mono (by omega), by rw [hr], hb⟩

theorem recS_snoc {s : ByteArray} {k p : Nat} {xs : List (CD × Value)} (hx : k = xs.length) (hk : k < 8) (h : recS s 8 0 = (xs.map (·.1) ++ (recS s (8 - k) p).1, (recS s (8 - k) p).2)) (hm : more s p = true) (u : Value) :
    recS s 8 0 = ((xs ++ [(cdAt s p, u)]).map (·.1) ++ (recS s (8 - (k + 1)) (endAt s p + 2)).1, (recS s (8 - (k + 1)) (endAt s p + 2)).2) := by
  rw [h, show 8 - k = (8 - (k + 1)) + 1 by omega, recS_yes s _ p hm]
  simp

end Go.Proofs.Ytafaabhnkjjkcaa
