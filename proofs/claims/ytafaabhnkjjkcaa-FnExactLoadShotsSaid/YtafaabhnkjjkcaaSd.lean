/- Contracts: the bytes of a particle, by the reference. -/
import Derived.Test.YtafaabhnkjjkcaaSb
import Derived.Lib.QuietBelow
namespace Go.Proofs.Ytafaabhnkjjkcaa
open Go.RowKit Go.Sort

/-- A number's word is one of 32 bits, and finite. -/
def okN (b : Nat) : Prop := (b : Int) < two32 ∧ fin .f32 b = true

/-- A particle's bytes. -/
def pdB (p : PD) : ByteArray := ((((fourB p.a ++ fourB p.b) ++ fourB p.c) ++ fourB p.d) ++ fourB p.q) ++ fourB p.m
@[go_sem] theorem pdB_size (p : PD) : (pdB p).size = 24 := by unfold pdB; simp only [ByteArray.size_append, fourB_size]

theorem l10Four_re (b : Nat) (w : World) (h : okN b) (d : Nat) (os : Array Obj) :
    Calls Try.prog 109 #[.float .f32 b] (grow (redrawn w d) os) fun e w' => e = .returned (.string (fourB b)) ∧ ∃ p : Regrown, w' = grow (redrawn w p.d) p.os :=
  Calls.regrown_of (l10Four_any b _ h.1 h.2)

set_option maxHeartbeats 1000000 in
set_option maxRecDepth 20000 in
theorem l10Bytes_any (g o : Nat) (p : PD) (w : World) (ha : okN p.a) (hb : okN p.b) (hc : okN p.c) (hd : okN p.d) (hq : okN p.q) (hm : okN p.m)
    (c0 : w.cell? ⟨g, o, none⟩ = some (.complex .f32 p.a p.b)) (c1 : w.cell? ⟨g, o + 1, none⟩ = some (.complex .f32 p.c p.d)) (c2 : w.cell? ⟨g, o + 2, none⟩ = some (.float .f32 p.q)) (c3 : w.cell? ⟨g, o + 3, none⟩ = some (.float .f32 p.m)) :
    Calls Try.prog 110 #[.pointer (some ⟨g, o, none⟩)] w fun e w' => e = .returned (.string (pdB p)) ∧ Below w.heap.size w w' := by
  have lg := World.block_lt_of_cell? w _ c0
  have FA := keep (fun d os w => l10Four_re p.a w ha d os)
  have FB := keep (fun d os w => l10Four_re p.b w hb d os)
  have FC := keep (fun d os w => l10Four_re p.c w hc d os)
  have FD := keep (fun d os w => l10Four_re p.d w hd d os)
  have FQ := keep (fun d os w => l10Four_re p.q w hq d os)
  have FM := keep (fun d os w => l10Four_re p.m w hm d os)
  have C2 := keep c2
  have C3 := keep c3
  have c0 := cell_regrown c0
  have c1 := cell_regrown c1
  clear ha hb hc hd hq hm c2 c3
  unfold pdB
  go_enter Try.func110, Try.ntmps110
  go_wp2_with fail
  refine wp_region_quiet_below (by as_aux_lemma => kernel_rfl) (by as_aux_lemma => kernel_rfl) ?_
  repeat (any_goals (go_big_quiet_step (first | (with_reducible exact FA.out _ _ _) | (with_reducible exact FB.out _ _ _) | (with_reducible exact FC.out _ _ _) | (with_reducible exact FD.out _ _ _))))
  refine wpQuiet_nil ?_
  intro w1 hw1
  obtain ⟨⟨d1, os1⟩, rfl⟩ := hw1
  have hb1 := below_regrown w d1 os1
  have c2 := (hb1.cell (p := ⟨g, o + 2, none⟩) lg).trans C2.out
  have c3 := (hb1.cell (p := ⟨g, o + 3, none⟩) lg).trans C3.out
  clear c0 c1
  generalize grow (redrawn w d1) os1 = w1 at *
  have c2 := cell_regrown c2
  have c3 := cell_regrown c3
  go_wp2_with fail
  refine wp_region_quiet_below (by as_aux_lemma => kernel_rfl) (by as_aux_lemma => kernel_rfl) ?_
  repeat (any_goals (go_big_quiet_step (first | (with_reducible exact FQ.out _ _ _) | (with_reducible exact FM.out _ _ _))))
  refine wpQuiet_nil ?_
  intro w2 hw2
  obtain ⟨⟨d2, os2⟩, rfl⟩ := hw2
  have hb2 := below_regrown w1 d2 os2
  clear c2 c3
  generalize grow (redrawn w1 d2) os2 = w2 at *
  go_wp2_with fail
  go_ret
  exact ⟨rfl, hb1.trans (hb2.mono hb1.size)⟩
end Go.Proofs.Ytafaabhnkjjkcaa
