/- Contracts: fields copied, scaled, added. -/
import Derived.Test.YtmnpijhnfdiomaaMb
namespace Go.Proofs.Ytmnpijhnfdiomaa
open Go.RowKit Go.Sort Ieee
set_option linter.unusedSimpArgs false

/-- The cells of a field as a list. -/
def fList (k : Nat) (fs : List Int) : List Value := fs.map fun n => Value.float .f32 (wd single k n)
theorem fList_length (k : Nat) (fs : List Int) : (fList k fs).length = fs.length := List.length_map _
theorem fList_at (k : Nat) (fs : List Int) (i : Nat) (h : i < fs.length) : (fList k fs)[i]? = some (.float .f32 (wd single k fs[i])) := by
  unfold fList
  rw [List.getElem?_map, List.getElem?_eq_getElem h]
  rfl
theorem fList_one (k : Nat) (fs : List Int) : ∀ u ∈ fList k fs, u.oneCell' = true := by
  intro u hu
  obtain ⟨n, _, rfl⟩ := List.mem_map.1 hu
  rfl
theorem own_fld {w : World} {B g c k : Nat} {fs : List Int} (h : w.ownsRow B 33 1 (.slice (some ⟨g, 0, none⟩) fs.length c) fs.length (fList k fs)) : FldAt w g k fs := by
  refine ⟨(h.lt g rfl).2, fun i hi => ?_⟩
  have h2 := h.cells (g := g) rfl i _ (fList_at k fs i hi)
  rwa [Addr.add_lit, Nat.zero_add] at h2

theorem eql_nilF (a : Option Addr) (l c : Nat) (w : World) : (binOp .eql 30 (.slice a l c) (.slice none 0 0)).run Try.prog w = .ok (.bool a.isNone) w := by
  have h : (binOp .eql 30 (.slice a l c) (.slice none 0 0)) = (do let b ← Op.equal 30 (.slice a l c) (.slice none 0 0); pure (.bool b)) := rfl
  rw [h]
  simp only [Sem.run_bind, Sem.run_pure, run_equal_slice_nil w 30 33 a l c Try.underlying30, Result.andThen_ok]

set_option maxHeartbeats 1000000 in
set_option maxRecDepth 20000 in
theorem CloneF_ok (k g c : Nat) (fs : List Int) (w : World) (h : FldAt w g k fs) (hp : 0 < fs.length) (hN : fs.length ≤ 1000) :
    Calls Try.prog 77 #[.slice (some ⟨g, 0, none⟩) fs.length c] w fun e w' => ∃ (g2 d : Nat) (cur : Array Value), e = .returned (.slice (some ⟨g2, 0, none⟩) fs.length d) ∧ w.heap.size ≤ g2 ∧ Has w' g2 33 cur ∧ fs.length ≤ cur.size ∧ fs.length ≤ d ∧ cur.toList.take fs.length = fList k fs ∧ Below w.heap.size w w' := by
  obtain ⟨i0, hi0, hz0, hz1, hz2⟩ := info_parts infoF32
  have HI := keep hi0
  have HZ0 := keep hz0
  have HZ1 := keep hz1
  have HZ2 := keep hz2
  clear hi0 hz0 hz1 hz2
  have HC := keep h
  have lg := h.1
  have R := keep (Has.made w 33 #[])
  have O5 : Kept ((w.alloc (.cells #[] 33)).ownsRow w.heap.size 33 1 (.slice (some ⟨w.heap.size, 0, none⟩) 0 0) 0 []) := keep ⟨rfl, .inr ⟨w.heap.size, 0, #[], rfl, Nat.le_refl _, R.out, Nat.le_refl _, by simp [maxLen], rfl, rfl⟩⟩
  have en := eql_nilF (some ⟨g, 0, none⟩) fs.length c
  have HL := keep (fList_length k fs)
  clear h R
  go_enter Try.func77, Try.ntmps77
  go_wp2_with (at_builtin; go_loud (refine wpList_append_own_at _ rfl _ _ 30 rfl w.heap.size 33 i0 _ 1 4 Try.underlying30 HI.out HZ0.out HZ1.out HZ2.out rfl (by decide) (.slice (some ⟨w.heap.size, 0, none⟩) 0 0) 0 _ rfl O5.out ⟨g, 0, none⟩ fs.length c (fList k fs) rfl (by rw [HL.out, Nat.mul_one]) ?c1 (fList_one k fs) ?c3 ?c4 ?c5 ?_))
  case c1 =>
    intro j u hj
    have hjl : j < fs.length := by
      have := List.getElem?_eq_some_iff.1 hj
      obtain ⟨h1, _⟩ := this
      rwa [HL.out] at h1
    have h1 := HC.out.2 j hjl
    rw [fList_at k fs j hjl] at hj
    rw [Addr.add_lit, Nat.zero_add, ← hj]
    exact (((Below.refl w.heap.size w).alloc (Nat.le_refl _) (.cells #[] 33)).cell (p := ⟨g, j, none⟩) lg).trans h1
  case c3 => unfold maxLen; omega
  case c4 => omega
  case c5 => first | omega | (simp only [World.size_alloc]; omega)
  intro v' w5 hown' hgrow _ _
  rcases hown'.2 with ⟨he, hn⟩ | ⟨g2, d, cur, he, hB, hg2, hnc, hcm, hcs, htake⟩
  · omega
  · have bX : Below w.heap.size (w.alloc (.cells #[] 33)) w5 := (Below.refl w.heap.size _).grown hgrow (by simp only [World.size_alloc]; omega) (fun b e => (O5.out.lt b e).1)
    have B6 := keep (((Below.refl w.heap.size w).alloc (Nat.le_refl _) (.cells #[] 33)).trans bX)
    subst he
    have HG := keep hg2
    simp only [Nat.zero_add, Nat.mul_one, List.nil_append] at htake hnc hcs
    clear hown' hgrow bX hg2 en
    go_wp2_with fail
    go_ret
    exact ⟨g2, d, cur, by simp, hB, HG.out, by omega, hnc, htake, B6.out⟩
end Go.Proofs.Ytmnpijhnfdiomaa
