/- Contracts: fields copied, scaled, added. -/
import Derived.Test.YtnmdgbnophclnaaMb
namespace Go.Proofs.Ytnmdgbnophclnaa
open Go.RowKit Go.Sort Ieee
set_option linter.unusedSimpArgs false

/-- The cells of a field as a list. -/
def fList (k : Nat) (fs : List Int) : List Value := fs.map fun n => Value.float .f32 (wd single k n)
theorem fList_length (k : Nat) (fs : List Int) : (fList k fs).length = fs.length := List.length_map _
theorem fList_at (k : Nat) (fs : List Int) (i : Nat) (h : i < fs.length) : (fList k fs)[i]? = some (.float .f32 (wd single k fs[i])) := by
  unfold fList
  rw [List.getElem?_map, List.getElem?_eq_getElem h]
  rfl
theorem fList_one (k : Nat) (fs : List Int) : ∀ u ∈ fList k fs, u.oneCell' = true := by
  intro u hu
  obtain ⟨n, _, rfl⟩ := List.mem_map.1 hu
  rfl
theorem own_fld {w : World} {B g c k : Nat} {fs : List Int} (h : w.ownsRow B 27 1 (.slice (some ⟨g, 0, none⟩) fs.length c) fs.length (fList k fs)) : FldAt w g k fs := by
  refine ⟨(h.lt g rfl).2, fun i hi => ?_⟩
  have h2 := h.cells (g := g) rfl i _ (fList_at k fs i hi)
  rwa [Addr.add_lit, Nat.zero_add] at h2

theorem eql_nilF (a : Option Addr) (l c : Nat) (w : World) : (binOp .eql 43 (.slice a l c) (.slice none 0 0)).run Try.prog w = .ok (.bool a.isNone) w := by
  have h : (binOp .eql 43 (.slice a l c) (.slice none 0 0)) = (do let b ← Op.equal 43 (.slice a l c) (.slice none 0 0); pure (.bool b)) := rfl
  rw [h]
  simp only [Sem.run_bind, Sem.run_pure, run_equal_slice_nil w 43 27 a l c Try.underlying43, Result.andThen_ok]

end Go.Proofs.Ytnmdgbnophclnaa
