/- Contracts: a field that is the same everywhere; a drawn particle by itself; a drawn field. -/
import Derived.Test.YtnmdgbnophclnaaMe
import Derived.Test.YtnmdgbnophclnaaHb
namespace Go.Proofs.Ytnmdgbnophclnaa
open Go.RowKit Go.Sort Ieee
set_option linter.unusedSimpArgs false

theorem has_one (w : World) (v : Value) (t : TypeId) : Has (w.alloc (.cells #[v] t)) w.heap.size t #[v] := Has.made w t #[v]

set_option maxHeartbeats 4000000 in
set_option maxRecDepth 20000 in
theorem R8Particle_ok (a : Option Addr) (n c : Nat) (w : World) (hb : Bytes w a n) :
    Calls Try.prog 28 #[.slice a n c] w fun e w' => ∃ p : GP, p.ok ∧ e = .returned p.agg ∧ Below w.heap.size w w' := by
  have P0 := keep (Has.made w 52 #[.complex .f32 0 0, .complex .f32 0 0, .float .f32 0, .float .f32 0])
  have B0 := keep ((Below.refl w.heap.size w).alloc (Nat.le_refl _) (.cells #[.complex .f32 0 0, .complex .f32 0 0, .float .f32 0, .float .f32 0] 52))
  have FR := keep (l00From_ok a n c _ (hb.alloc (.cells #[.complex .f32 0 0, .complex .f32 0 0, .float .f32 0, .float .f32 0] 52)))
  have DO := keep (fun K w1 h hK => l02DrawOne_any (w.heap.size + 1) a n c K w1 h hK)
  clear hb
  go_enter Try.func28, Try.ntmps28
  go_wp2_with fail
  refine FR.out.mono ?_
  rintro e w1 ⟨rfl, hd, hb⟩
  rw [World.size_alloc] at hd
  have HD := keep hd
  have P1 := keep (P0.out.after hb)
  have B1 := keep (B0.out.trans (hb.mono B0.out.size))
  clear hd hb P0 B0 FR
  go_wp2_with fail
  refine (DO.out _ _ HD.out (by omega)).mono ?_
  rintro e w2 ⟨p, hp, rfl, hd, hg⟩
  have B2 := B1.out.grown hg B1.out.size (fun g e => by injection e with e; omega)
  have p2 := P1.out.byG hg (by intro e; injection e with e; omega)
  have c2 := p2.cells
  have u2 := p2.free
  have HP := keep hp
  clear hd hg hp
  unfold GP.agg
  go_wp2_with fail
  have q := (((p2.written 0 (.complex .f32 (wd single 3 p.x) (wd single 3 p.y))).written 1 (.complex .f32 (wd single 3 p.u) (wd single 3 p.v))).written 2 (.float .f32 (wd single 1 p.q))).written 3 (.float .f32 (wd single 2 p.m))
  have qc := q.cells
  exact bodyPost_ret (v := GP.agg p) (by simp [results, Try.results28, go_sem, qc]; rfl) rfl ⟨p, HP.out, rfl, (((B2.setCell (Nat.le_refl _) _).setCell (Nat.le_refl _) _).setCell (Nat.le_refl _) _).setCell (Nat.le_refl _) _⟩

theorem fList_append (k : Nat) (a b : List Int) : fList k (a ++ b) = fList k a ++ fList k b := List.map_append ..
theorem Small.snoc {fs : List Int} {M : Nat} (h : Small fs M) (n : Int) (hn : n.natAbs ≤ M) : Small (fs ++ [n]) M := fun u hu => by
  rcases List.mem_append.1 hu with h1 | h1
  · exact h u h1
  · rw [List.mem_singleton.1 h1]; exact hn

end Go.Proofs.Ytnmdgbnophclnaa
