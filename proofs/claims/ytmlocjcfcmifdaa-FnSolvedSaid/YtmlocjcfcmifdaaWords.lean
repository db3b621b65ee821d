/- A block of cells that is known whole, and how it is kept. No condition. -/
import Derived.Below
import Derived.Deep.Draws
import Derived.Laws.Rows
namespace Go.Proofs.Ytmlocjcfcmifdaa
open Go.RowKit

/-- In 'w' the block 'g' holds the cells 'cs', none of them frozen. -/
def Has (w : World) (g : Nat) (t : TypeId) (cs : Array Value) : Prop := w.heap[g]? = some (.cells cs t (0, 0))

theorem Has.in_heap {w : World} {g : Nat} {t : TypeId} {cs : Array Value} (h : Has w g t cs) : g < w.heap.size := by
  by_cases hl : g < w.heap.size
  · exact hl
  · have h' : w.heap[g]? = none := Array.getElem?_eq_none (by omega)
    have h2 : w.heap[g]? = some (.cells cs t (0, 0)) := h
    rw [h'] at h2
    cases h2
theorem Has.cells {w : World} {g : Nat} {t : TypeId} {cs : Array Value} (h : Has w g t cs) (i : Nat) : w.cell? ⟨g, i, none⟩ = cs[i]? := by
  have h2 : w.heap[g]? = some (.cells cs t (0, 0)) := h
  simp [World.cell?, h2]
theorem Has.free {w : World} {g : Nat} {t : TypeId} {cs : Array Value} (h : Has w g t cs) (i : Nat) : w.frozen? ⟨g, i, none⟩ = false := by
  have h2 : w.heap[g]? = some (.cells cs t (0, 0)) := h
  simp [World.frozen?, h2]
theorem Has.made (w : World) (t : TypeId) (cs : Array Value) : Has (w.alloc (.cells cs t)) w.heap.size t cs := heap_alloc_new w _
theorem Has.draws {w : World} {g : Nat} {t : TypeId} {cs : Array Value} (h : Has w g t cs) (n : Nat) : Has (w.drewN n) g t cs := h
theorem Has.beside {w : World} {g : Nat} {t : TypeId} {cs : Array Value} (h : Has w g t cs) (o : Obj) : Has (w.alloc o) g t cs :=
  (Below.heap_alloc w o g h.in_heap).trans h
theorem Has.written {w : World} {g : Nat} {t : TypeId} {cs : Array Value} (h : Has w g t cs) (i : Nat) (u : Value) : Has (w.setCell ⟨g, i, none⟩ u) g t (cs.setIfInBounds i u) := by
  have h2 : w.heap[g]? = some (.cells cs t (0, 0)) := h
  show (w.heap.modify g _)[g]? = _
  rw [Array.getElem?_modify]
  simp [h2]
theorem Has.elsewhere {w : World} {g : Nat} {t : TypeId} {cs : Array Value} (h : Has w g t cs) {p : Addr} (hp : g ≠ p.block) (u : Value) : Has (w.setCell p u) g t cs :=
  (Below.heap_setCell w p u g hp).trans h
theorem Has.later {w w' : World} {g B : Nat} {t : TypeId} {cs : Array Value} (h : Has w g t cs) (hb : Below B w w') (hg : g < B) : Has w' g t cs :=
  (hb.block g hg).trans h
/-- Behind a call that turned nothing of what was there. -/
theorem Has.after {w w' : World} {g : Nat} {t : TypeId} {cs : Array Value} (h : Has w g t cs) (hb : Below w.heap.size w w') : Has w' g t cs :=
  h.later hb h.in_heap
end Go.Proofs.Ytmlocjcfcmifdaa
