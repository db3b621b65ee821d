/- Contract: a drawn list of particles. -/
import Derived.Test.YtegojadabfeokaaHa
import Derived.Test.YtegojadabfeokaaGg
import Derived.Maps.AppendAt
import Derived.Deep.AppendLies
namespace Go.Proofs.Ytegojadabfeokaa
open Go.RowKit Go.Sort Ieee
set_option linter.unusedSimpArgs false

theorem own_byG {w w' : World} {B e n g : Nat} {v : Value} {xs : List Value} {size : Nat} (h : w.ownsRow B e size v n xs) (hg : w.grownBy w' (some g)) (hB : g < B) : w'.ownsRow B e size v n xs :=
  h.kept hg (.inr fun e => by have := (h.lt g e).1; omega)

theorem infoParticle : (Try.prog.info? 27).map (fun i => (i.zero, i.size, i.bytes)) = some (some (.agg #[.complex .f32 0 0, .complex .f32 0 0, .float .f32 0, .float .f32 0]), 4, 24) := by kernel_rfl
theorem four_new {w : World} {g : Nat} {t : TypeId} {x0 x1 x2 x3 : Value} (h : Has w g t #[x0, x1, x2, x3]) : ∀ j u, [x0, x1, x2, x3][j]? = some u → w.cell? ((⟨g, 0, none⟩ : Addr).add j) = some u := by
  intro j u hj
  rw [Addr.add_lit, Nat.zero_add, h.cells]
  simpa using hj

theorem gb_row (w : World) (g o : Nat) (u : Value) : w.grownBy (w.setCell ⟨g, o, none⟩ u) (some g) :=
  ⟨rfl, rfl, rfl, by simp [World.setCell], fun k _ hne => Below.heap_setCell w ⟨g, o, none⟩ u k (fun e => hne (by rw [e]))⟩
theorem psCells_append (a b : List PD) : psCells (a ++ b) = psCells a ++ psCells b := List.flatMap_append ..

end Go.Proofs.Ytegojadabfeokaa
