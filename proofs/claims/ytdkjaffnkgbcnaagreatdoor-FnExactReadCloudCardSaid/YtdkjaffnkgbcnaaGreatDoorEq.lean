/- Contracts of the laws' own helpers over slices of particles and clouds: what reads alike is found equal. -/
import Derived.Test.YtdkjaffnkgbcnaaGreatDoorMark
import Derived.Lib.QuietBelow
namespace Go.Proofs.YtdkjaffnkgbcnaaGreatDoor
open Go.RowKit Go.Sort

def PD.fin (p : PD) : Bool := finP p.a p.b p.c p.d p.q p.m

theorem owns_below {w w' : World} {B e n : Nat} {v : Value} {xs : List Value} {size : Nat} (h : w.ownsRow B e size v n xs) (hb : Below w.heap.size w w') : w'.ownsRow B e size v n xs :=
  h.kept (row := none) ⟨hb.os, hb.tape, hb.output, hb.size, fun k hk _ => hb.block k hk⟩ (by cases v.ownBlock <;> simp)

set_option maxHeartbeats 1000000 in
set_option maxRecDepth 20000 in
theorem eqParticleS_any (B1 B2 : Nat) (v1 v2 : Value) (ps : List PD) (w : World) (h1 : w.ownsRow B1 43 4 v1 ps.length (psCells ps)) (h2 : w.ownsRow B2 43 4 v2 ps.length (psCells ps)) (hf : ps.all PD.fin = true) (hN : ps.length ≤ 1000000) :
    Calls Tryz.prog 16 #[v1, v2] w fun e w' => e = .returned (.bool true) ∧ Below w.heap.size w w' := by
  by_cases h0 : ps.length = 0
  · have hp : ps = [] := List.eq_nil_of_length_eq_zero h0
    subst hp
    have hlen : ∀ (B : Nat) (v : Value), w.ownsRow B 43 4 v 0 (psCells []) → ∃ a c, v = .slice a 0 c := fun B v h => by
      rcases h.2 with ⟨rfl, _⟩ | ⟨g, cap, cur, rfl, _⟩
      · exact ⟨_, _, rfl⟩
      · exact ⟨_, _, rfl⟩
    obtain ⟨a1, c1, rfl⟩ := hlen B1 v1 h1
    obtain ⟨a2, c2, rfl⟩ := hlen B2 v2 h2
    clear h1 h2 hf
    go_enter Tryz.func16, Tryz.ntmps16
    go_wp2_with fail
    refine wp_loop_rounds 1 ?_
    rw [rounds_succ]
    go_wp2_with fail
    go_ret
    exact ⟨rfl, Below.refl _ _⟩
  · obtain ⟨g1, k1, rfl, l1⟩ : ∃ g k, v1 = .slice (some ⟨g, 0, none⟩) ps.length k ∧ g < w.heap.size := by
      rcases h1.2 with ⟨_, hn⟩ | ⟨g, cap, cur, rfl, _⟩
      · exact absurd hn h0
      · exact ⟨g, cap, rfl, (h1.lt g rfl).2⟩
    obtain ⟨g2, k2, rfl, l2⟩ : ∃ g k, v2 = .slice (some ⟨g, 0, none⟩) ps.length k ∧ g < w.heap.size := by
      rcases h2.2 with ⟨_, hn⟩ | ⟨g, cap, cur, rfl, _⟩
      · exact absurd hn h0
      · exact ⟨g, cap, rfl, (h2.lt g rfl).2⟩
    have H1 := keep h1
    have H2 := keep h2
    have HF := keep hf
    have hn : ((ps.length : Int) != ps.length) = false := by simp
    clear h1 h2 hf
    go_enter Tryz.func16, Tryz.ntmps16
    go_wp2_with fail
    go_loopw [5] (fun s wr => ∃ i : Nat, i ≤ ps.length ∧ s = .int .i64 i ∧ Below w.heap.size w wr) (fun s _ => ps.length - (intOf s).toNat)
    case atStart => exact ⟨0, Nat.zero_le _, rfl, Below.refl _ _⟩
    case round =>
      obtain ⟨i, hi, rfl, hb⟩ := hrel
      by_cases hlt : i < ps.length
      · have hcell : ∀ (g j : Nat) (u : Value), g < w.heap.size → (∃ B c, w.ownsRow B 43 4 (.slice (some ⟨g, 0, none⟩) ps.length c) ps.length (psCells ps)) → j < 4 → ps[i].cells[j]? = some u → wr.cell? ⟨g, i * 4 + j, none⟩ = some u := fun g j u hg ho hj hu => by
          obtain ⟨B, c, ho⟩ := ho
          rw [hb.cell (p := ⟨g, i * 4 + j, none⟩) hg]
          exact owns_cell ho (by rw [psCells_at _ i hlt j hj]; exact hu)
        have c0 : wr.cell? ⟨g1, i * 4, none⟩ = some (.complex .f32 ps[i].a ps[i].b) := hcell g1 0 _ l1 ⟨_, _, H1.out⟩ (by omega) rfl
        have c1 : wr.cell? ⟨g1, i * 4 + 1, none⟩ = some (.complex .f32 ps[i].c ps[i].d) := hcell g1 1 _ l1 ⟨_, _, H1.out⟩ (by omega) rfl
        have c2 : wr.cell? ⟨g1, i * 4 + 2, none⟩ = some (.float .f32 ps[i].q) := hcell g1 2 _ l1 ⟨_, _, H1.out⟩ (by omega) rfl
        have c3 : wr.cell? ⟨g1, i * 4 + 3, none⟩ = some (.float .f32 ps[i].m) := hcell g1 3 _ l1 ⟨_, _, H1.out⟩ (by omega) rfl
        have d0 : wr.cell? ⟨g2, i * 4, none⟩ = some (.complex .f32 ps[i].a ps[i].b) := hcell g2 0 _ l2 ⟨_, _, H2.out⟩ (by omega) rfl
        have d1 : wr.cell? ⟨g2, i * 4 + 1, none⟩ = some (.complex .f32 ps[i].c ps[i].d) := hcell g2 1 _ l2 ⟨_, _, H2.out⟩ (by omega) rfl
        have d2 : wr.cell? ⟨g2, i * 4 + 2, none⟩ = some (.float .f32 ps[i].q) := hcell g2 2 _ l2 ⟨_, _, H2.out⟩ (by omega) rfl
        have d3 : wr.cell? ⟨g2, i * 4 + 3, none⟩ = some (.float .f32 ps[i].m) := hcell g2 3 _ l2 ⟨_, _, H2.out⟩ (by omega) rfl
        have hfi : ps[i].fin = true := List.all_eq_true.1 HF.out _ (List.getElem_mem hlt)
        have hE := fun d os => Calls.regrown_of (eqParticle_self ps[i].a ps[i].b ps[i].c ps[i].d ps[i].q ps[i].m (grow (redrawn wr d) os) hfi)
        unfold pCells at hE
        have HE := keep hE
        clear hE hfi hcell
        generalize ps[i] = p at *
        have c0 := cell_regrown c0
        have c1 := cell_regrown c1
        have c2 := cell_regrown c2
        have c3 := cell_regrown c3
        have d0 := cell_regrown d0
        have d1 := cell_regrown d1
        have d2 := cell_regrown d2
        have d3 := cell_regrown d3
        go_wp2_with fail
        refine wp_region_quiet_below (by as_aux_lemma => kernel_rfl) (by as_aux_lemma => kernel_rfl) ?_
        repeat (any_goals (go_big_quiet_step (exact HE.out _ _)))
        refine wpQuiet_nil ?_
        intro w' hw'
        obtain ⟨⟨dq, osq⟩, rfl⟩ := hw'
        have hb2 := below_regrown wr dq osq
        generalize grow (redrawn wr dq) osq = w2 at *
        clear c0 c1 c2 c3 d0 d1 d2 d3
        go_wp2_with fail
        refine ⟨⟨i + 1, by omega, by go_num, hb.trans (hb2.mono hb.size)⟩, by simp [intOf]; omega⟩
      · obtain rfl : i = ps.length := by omega
        go_wp2_with fail
        go_ret
        exact ⟨rfl, hb⟩
end Go.Proofs.YtdkjaffnkgbcnaaGreatDoor
