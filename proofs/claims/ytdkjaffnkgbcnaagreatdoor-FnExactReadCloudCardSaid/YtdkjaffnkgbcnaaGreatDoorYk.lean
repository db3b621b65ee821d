/- Contracts: the reference's new cloud, and a cloud given back if it is valid. -/
import Derived.Test.YtdkjaffnkgbcnaaGreatDoorYg
import Derived.Deep.RegionWith
import Derived.OneCell
namespace Go.Proofs.YtdkjaffnkgbcnaaGreatDoor
open Go.RowKit Go.Sort
set_option linter.unusedSimpArgs false
set_option linter.unusedVariables false

set_option maxHeartbeats 2000000 in
set_option maxRecDepth 20000 in
theorem l11New_any (x y : Int) (w : World) :
    Calls Tryz.prog 23 #[.int .i64 x, .int .i64 y] w fun e w' => e = .returned (cloudV x y (.slice (some ⟨w.heap.size + 1, 0, none⟩) 0 0) 0 0) ∧ w'.ownsRow (w.heap.size + 1) 43 4 (.slice (some ⟨w.heap.size + 1, 0, none⟩) 0 0) 0 [] ∧ Below w.heap.size w w' ∧ w.heap.size + 2 ≤ w'.heap.size := by
  have q := Has.made w 27 #[.int .i64 0, .int .i64 0, .slice none 0 0, .float .f32 0, .float .f32 0]
  have qc := (q.beside (.cells #[] 43)).cells
  have qf := (q.beside (.cells #[] 43)).free
  have Q := keep (q.beside (.cells #[] 43))
  clear q
  go_enter Tryz.func23, Tryz.ntmps23
  go_wp2_with fail
  refine bodyPost_ret (by simp [results, Tryz.results23, go_sem]; rfl) rfl ⟨rfl, ?_, ?_, ?_⟩
  · have h := World.ownsRow_made (w.alloc (.cells #[.int .i64 x, .int .i64 y, .slice (some ⟨w.heap.size + 1, 0, none⟩) 0 0, .float .f32 0, .float .f32 0] 27)) (base := w.heap.size + 1) (e := 43) (size := 4) #[] 0 (by rw [World.size_alloc]; exact Nat.le_refl _) (by unfold maxLen; omega) rfl
    rw [World.size_alloc] at h
    exact h
  · exact ((Below.refl _ w).alloc (Nat.le_refl _) _).alloc (by simp) _
  · simp only [World.size_alloc]; omega

set_option maxHeartbeats 4000000 in
set_option maxRecDepth 20000 in
theorem l05Give_ok (B : Nat) (A : Option Addr) (n c : Nat) (ps : List PD) (wd hg : Int) (mg bk : Nat) (w : World) (hown : w.ownsRow B 43 4 (.slice A n c) ps.length (psCells ps)) (hok : ps.all PD.ok = true) (hN : ps.length ≤ 2000000) :
    Calls Tryz.prog 25 #[cloudV wd hg (.slice A n c) mg bk] w fun e w' => e = .returned (.tuple #[if okCloud wd hg ps.length mg bk then cloudV wd hg (.slice A n c) mg bk else cloudV 0 0 (.slice none 0 0) 0 0, .bool (okCloud wd hg ps.length mg bk)]) ∧ Below w.heap.size w w' := by
  have IS := l05Is_ok B w.heap.size (.slice A n c) ps wd hg mg bk ((w.alloc (.cells #[.int .i64 wd, .int .i64 hg, .slice A n c, .float .f32 mg, .float .f32 bk] 27)).alloc (.cells #[.int .i64 0, .int .i64 0, .slice none 0 0, .float .f32 0, .float .f32 0] 27)) ((hown.alloc _).alloc _) hok hN ((Has.made w 27 #[.int .i64 wd, .int .i64 hg, .slice A n c, .float .f32 mg, .float .f32 bk]).beside _).cells
  have Q := keep ((Has.made w 27 #[.int .i64 wd, .int .i64 hg, .slice A n c, .float .f32 mg, .float .f32 bk]).beside (.cells #[.int .i64 0, .int .i64 0, .slice none 0 0, .float .f32 0, .float .f32 0] 27))
  have R := keep (Has.made (w.alloc (.cells #[.int .i64 wd, .int .i64 hg, .slice A n c, .float .f32 mg, .float .f32 bk] 27)) 27 #[.int .i64 0, .int .i64 0, .slice none 0 0, .float .f32 0, .float .f32 0])
  unfold cloudV
  clear hown hok hN
  cases hc : okCloud wd hg ps.length mg bk
  all_goals
    rw [hc] at IS
    have IS := keep IS
    clear hc
    go_enter Tryz.func25, Tryz.ntmps25
    go_wp2_with fail
    refine IS.out.mono ?_
    rintro e w1 ⟨rfl, m1, rfl⟩
    go_wp2_with fail
    refine bodyPost_ret (by simp [results, Tryz.results25, go_sem]) rfl ⟨rfl, ?_⟩
    exact Below.drewN_of (((Below.refl _ w).alloc (Nat.le_refl _) _).alloc (by simp) _) _
end Go.Proofs.YtdkjaffnkgbcnaaGreatDoor
