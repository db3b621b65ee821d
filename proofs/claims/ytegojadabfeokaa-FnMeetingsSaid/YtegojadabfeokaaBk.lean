/- Contracts: a drawn particle, number and place. No condition but that the bytes can be read. -/
import Derived.Test.YtegojadabfeokaaGg
import Derived.Test.YtegojadabfeokaaBc
namespace Go.Proofs.Ytegojadabfeokaa
open Go.RowKit Go.Sort Ieee
set_option linter.unusedSimpArgs false
set_option linter.unusedVariables false


set_option maxHeartbeats 4000000 in
set_option maxRecDepth 20000 in
theorem R8Particle_ok (a : Option Addr) (n c : Nat) (w : World) (hb : Bytes w a n) :
    Calls Try.prog 7 #[.slice a n c] w fun e w' => ∃ p : GP, p.ok ∧ e = .returned p.agg ∧ Below w.heap.size w w' := by
  have P0 := keep (Has.made w 27 #[.complex .f32 0 0, .complex .f32 0 0, .float .f32 0, .float .f32 0])
  have B0 := keep ((Below.refl w.heap.size w).alloc (Nat.le_refl _) (.cells #[.complex .f32 0 0, .complex .f32 0 0, .float .f32 0, .float .f32 0] 27))
  have FR := keep (l00From_ok a n c _ (hb.alloc (.cells #[.complex .f32 0 0, .complex .f32 0 0, .float .f32 0, .float .f32 0] 27)))
  have DO := keep (fun K w1 h hK => l02DrawOne_any (w.heap.size + 1) a n c K w1 h hK)
  clear hb
  go_enter Try.func7, Try.ntmps7
  go_wp2_with fail
  refine FR.out.mono ?_
  rintro e w1 ⟨rfl, hd, hb⟩
  rw [World.size_alloc] at hd
  have HD := keep hd
  have P1 := keep (P0.out.after hb)
  have B1 := keep (B0.out.trans (hb.mono B0.out.size))
  clear hd hb P0 B0 FR
  go_wp2_with fail
  refine (DO.out _ _ HD.out (by omega)).mono ?_
  rintro e w2 ⟨p, hp, rfl, hd, hg⟩
  have B2 := B1.out.grown hg B1.out.size (fun g e => by injection e with e; omega)
  have p2 := P1.out.byG hg (by intro e; injection e with e; omega)
  have c2 := p2.cells
  have u2 := p2.free
  have HP := keep hp
  clear hd hg hp
  unfold GP.agg
  go_wp2_with fail
  have q := (((p2.written 0 (.complex .f32 (wd single 3 p.x) (wd single 3 p.y))).written 1 (.complex .f32 (wd single 3 p.u) (wd single 3 p.v))).written 2 (.float .f32 (wd single 1 p.q))).written 3 (.float .f32 (wd single 2 p.m))
  have qc := q.cells
  exact bodyPost_ret (v := GP.agg p) (by simp [results, Try.results7, go_sem, qc]; rfl) rfl ⟨p, HP.out, rfl, (((B2.setCell (Nat.le_refl _) _).setCell (Nat.le_refl _) _).setCell (Nat.le_refl _) _).setCell (Nat.le_refl _) _⟩

set_option maxHeartbeats 1000000 in
theorem R8Number_ok (a : Option Addr) (n c k : Nat) (w : World) (hb : Bytes w a n) (hk : k ≤ 100) :
    Calls Try.prog 8 #[.slice a n c, .int .i64 k] w fun e w' => ∃ x : Int, (-8 ≤ x ∧ x ≤ 8) ∧ e = .returned (.float .f32 (wd single 3 x)) ∧ w' = w := by
  by_cases hlt : k < n
  · obtain ⟨b, o, rfl, hbl, v, hv, hc⟩ := hb k hlt
    have hi : (k : Int) < (n : Int) := by omega
    have hr : (v : Int) % 17 < 17 ∧ 0 ≤ (v : Int) % 17 := by omega
    have ht : Int.tmod (v : Int) 17 = (v : Int) % 17 := by rw [Int.tmod_eq_emod_of_nonneg (by omega)]
    have hv' : IntKind.i64.wrap (v : Int) = (v : Int) := IntWalk.i64_in _ ⟨by omega, by omega⟩
    have hw : IntKind.i64.wrap ((v : Int) % 17) = ((v : Int) % 17) := IntWalk.i64_in _ ⟨by omega, by omega⟩
    have hw2 : IntKind.i64.wrap (((v : Int) % 17) - 8) = ((v : Int) % 17) - 8 := IntWalk.i64_in _ ⟨by omega, by omega⟩
    have f1 := zrun (div8 (((v : Int) % 17) - 8) (by omega) (by omega))
    have HR := keep hr
    clear hb hr hbl
    go_enter Try.func8, Try.ntmps8
    go_wp2_with fail
    go_ret
    exact ⟨((v : Int) % 17) - 8, ⟨by omega, by have := HR.out; omega⟩, by first | rfl | simp, rfl⟩
  · have hi : ¬ ((k : Int) < (n : Int)) := by omega
    have hi2 : ((n : Int) ≤ (k : Int)) := by omega
    clear hb
    go_enter Try.func8, Try.ntmps8
    go_wp2_with fail
    go_ret
    exact ⟨4, ⟨by omega, by omega⟩, by rw [show wd single 3 4 = 1056964608 from by decide +kernel]; rfl, rfl⟩

end Go.Proofs.Ytegojadabfeokaa
