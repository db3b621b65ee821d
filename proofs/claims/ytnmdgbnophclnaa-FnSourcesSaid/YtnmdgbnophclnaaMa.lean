/- Contract: the number of a field at a place. -/
import Derived.Test.YtnmdgbnophclnaaKg
namespace Go.Proofs.Ytnmdgbnophclnaa
open Go.RowKit Go.Sort Ieee
set_option linter.unusedSimpArgs false

/-- The cells of a field in a block, of numbers n / 2^k. -/
def FldAt (w : World) (g k : Nat) (fs : List Int) : Prop := g < w.heap.size ∧ ∀ i (h : i < fs.length), w.cell? ⟨g, i, none⟩ = some (.float .f32 (wd single k fs[i]))
theorem Has.fld {w : World} {g k : Nat} {fs : List Int} (h : Has w g 27 (fCells k fs)) : FldAt w g k fs := ⟨h.in_heap, fun i hi => (h.cells i).trans (fCells_at k fs i hi)⟩
theorem FldAt.after {w w' : World} {g k : Nat} {fs : List Int} (h : FldAt w g k fs) (hb : Below w.heap.size w w') : FldAt w' g k fs :=
  ⟨Nat.lt_of_lt_of_le h.1 hb.size, fun i hi => (hb.cell (p := ⟨g, i, none⟩) h.1).trans (h.2 i hi)⟩
theorem FldAt.beside {w : World} {g k : Nat} {fs : List Int} (h : FldAt w g k fs) (o : Obj) : FldAt (w.alloc o) g k fs := h.after ((Below.refl w.heap.size w).alloc (Nat.le_refl _) o)
theorem FldAt.draws {w : World} {g k : Nat} {fs : List Int} (h : FldAt w g k fs) (m : Nat) : FldAt (w.drewN m) g k fs := h.after (Below.drewN _ w m)

/-- What a field has at corners, by shares. -/
def gatF (cs : List (Nat × Int)) (fs : List Int) : Int := (cs.map fun c => c.2 * fs.getD c.1 0).sum
theorem gatF_take (cs : List (Nat × Int)) (fs : List Int) (i : Nat) (h : i < cs.length) : gatF (cs.take (i + 1)) fs = gatF (cs.take i) fs + cs[i].2 * fs.getD cs[i].1 0 := by
  unfold gatF
  rw [List.take_succ_eq_append_getElem h, List.map_append, List.sum_append]
  simp
theorem gatF_bound (fs : List Int) (M : Nat) (hM : Small fs M) : ∀ (cs : List (Nat × Int)), (∀ c ∈ cs, c.2.natAbs ≤ 64) → (gatF cs fs).natAbs ≤ 64 * M * cs.length
  | [], _ => by simp [gatF]
  | c :: cs, h => by
    have h1 := gatF_bound fs M hM cs (fun x hx => h x (List.mem_cons_of_mem _ hx))
    have h2 := natAbs_mul_le (h c (List.mem_cons_self ..)) (hM.at c.1)
    unfold gatF at *
    rw [List.map_cons, List.sum_cons, List.length_cons, Nat.mul_succ]
    omega

/-- A product of a share and a number of a field, added to a number. -/
theorem gather_step (k : Nat) (hk : k ≤ 10) (G F s : Int) (hG : G.natAbs ≤ 8000000) (hF : F.natAbs ≤ 10000) (hs : s.natAbs ≤ 64) : ∃ r, floatBits .mul .f32 (wd single 6 s) (wd single k F) = some r ∧ floatBits .add .f32 (wd single (6 + k) G) r = some (wd single (6 + k) (G + s * F)) := by
  have hb : (s * F).natAbs ≤ 64 * 10000 := natAbs_mul_le hs hF
  obtain ⟨r, e, hr, hl⟩ := mul_is (f := single) fit_single binade_le_single (k := 6) (l := k) (a := s) (b := F) (by decide) (by show k + 23 ≤ 149; omega) (by show 6 + k + 23 ≤ 149; omega) (by show s.natAbs < 16777216; omega) (by show F.natAbs < 16777216; omega) (by show (s * F).natAbs < 16777216; omega)
  exact ⟨r, e, add_is (f := single) fit_single binade_le_single hr hl (by show 6 + k + 23 ≤ 149; omega) (by show G.natAbs < 16777216; omega) (by show (s * F).natAbs < 16777216; omega) (by show (G + s * F).natAbs < 16777216; omega)⟩

end Go.Proofs.Ytnmdgbnophclnaa
