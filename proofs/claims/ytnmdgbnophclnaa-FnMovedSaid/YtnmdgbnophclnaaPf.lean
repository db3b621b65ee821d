/- Contracts: slices.Grow of nil, slices.Concat of two rows; merged clouds. -/
import Derived.Test.YtnmdgbnophclnaaPe
import Derived.Lib.AppendZeros
import Derived.Laws.OwnMore
namespace Go.Proofs.Ytnmdgbnophclnaa
open Go.RowKit Go.Sort Ieee
set_option linter.unusedSimpArgs false

theorem run_append_rows {P : Program} (w : World) (base B2 : Nat) (t ty e : TypeId) (i : TypeInfo) (z : Value) (size bytes : Nat) (ht : P.underlying t = some (.slice e)) (hi : P.info? e = some i) (hz : i.zero = some z)
    (hsize : i.size = size) (hby : i.bytes = bytes) (hzs : z.cells.size = size) (hsz : 0 < size)
    (v v2 : Value) (n m : Nat) (xs ys : List Value) (hown : w.ownsRow base e size v n xs) (h2 : w.ownsRow B2 e size v2 m ys) (h1 : ∀ u ∈ ys, u.oneCell' = true)
    (h63 : n + m ≤ maxLen) (hbytes : (n + m) * bytes ≤ 140737488355328) (hbase : base ≤ w.heap.size) :
    ∃ v' w', (Builtin.append_ #[t, t] ty #[v, v2]).run P w = .ok v' w' ∧ w'.ownsRow base e size v' (n + m) (xs ++ ys) ∧ w.grownBy w' v.ownBlock := by
  rcases h2.2 with ⟨rfl, rfl⟩ | ⟨g, cap, cur, rfl, hB, hg, hnc, hcm, hcs, htake⟩
  · have hy : ys = [] := List.eq_nil_of_length_eq_zero (by rw [h2.1, Nat.zero_mul])
    subst hy
    exact ⟨v, w, run_append_owned_none (P := P) (w := w) base t ty e i size ht hi v n xs hown, by rw [List.append_nil]; exact hown, World.grownBy.refl _ _⟩
  · obtain ⟨v', w', hr, ho, hgr, _, _⟩ := run_append_own_at (P := P) w base t ty e i z size bytes ht hi hz hsize hby hzs hsz v n xs hown ⟨g, 0, none⟩ m cap ys h2.1 (fun j u hj => h2.cells (g := g) rfl j u hj) h1 h63 hbytes hbase
    exact ⟨v', w', hr, ho, hgr⟩

set_option maxHeartbeats 2000000 in
set_option maxRecDepth 20000 in
theorem Grow_ok (n : Nat) (hn : n ≤ 6) (w : World) :
    Calls Try.prog 106 #[.slice none 0 0, .int .i64 n] w fun e w' => ∃ v', e = .returned v' ∧ w'.ownsRow w.heap.size 52 4 v' 0 [] ∧ Below w.heap.size w w' := by
  by_cases h0 : n = 0
  · subst h0
    go_enter Try.func106, Try.ntmps106
    go_wp2_with fail
    go_ret
    exact ⟨_, rfl, World.ownsRow_nil _ _ _ _, Below.refl _ _⟩
  · obtain ⟨i0, hi0, hz0, hz1, hz2⟩ := info_parts infoParticle
    have hr := fun ty => Lib.run_append_nil_zeros (P := Try.prog) w 26 3 ty 52 i0 _ .i64 .i64 Try.underlying26 Try.underlying3 hi0 hz0 n (by omega) (by rw [hz1]; decide) (by omega) (by rw [hz2]; omega)
    have g1 : n ≤ grownCap w n 0 52 := grownCap_ge w _ _ _
    have g2 := grownCap_le_maxLen w n 0 52 (by unfold maxLen; omega)
    have hsz : ∀ G, n ≤ G → (Builtin.zeroCells (Value.agg #[.complex .f32 0 0, .complex .f32 0 0, .float .f32 0, .float .f32 0]).cells n ++ Builtin.zeroCells (Value.agg #[.complex .f32 0 0, .complex .f32 0 0, .float .f32 0, .float .f32 0]).cells (G - n)).size = G * 4 := fun G hG => by
      rw [Array.size_append, size_zeroCells, size_zeroCells, ← Nat.add_mul, show n + (G - n) = G by omega]
      rfl
    have hcs := hsz _ g1
    generalize grownCap w n 0 52 = G at *
    generalize (Builtin.zeroCells (Value.agg #[.complex .f32 0 0, .complex .f32 0 0, .float .f32 0, .float .f32 0]).cells n ++ Builtin.zeroCells (Value.agg #[.complex .f32 0 0, .complex .f32 0 0, .float .f32 0, .float .f32 0]).cells (G - n)) = zs at *
    have OW : Kept ((w.drew.alloc (.cells zs 52)).ownsRow w.heap.size 52 4 (.slice (some ⟨w.heap.size, 0, none⟩) 0 G) 0 []) := keep ⟨rfl, .inr ⟨w.heap.size, G, zs, rfl, Nat.le_refl _, Has.made w.drew 52 zs, Nat.zero_le _, g2, hcs, rfl⟩⟩
    have BB := keep ((Below.drew (Below.refl w.heap.size w)).alloc (Nat.le_refl _) (.cells zs 52))
    have hG : (0 : Int) ≤ (G : Int) := by omega
    have hn0 : (0 : Int) < (n : Int) := by omega
    unfold maxLen at g2
    have hG2 : (G : Int) ≤ 9223372036854775807 := by omega
    clear hcs hsz hi0 hz0 hz1 hz2 h0
    go_enter Try.func106, Try.ntmps106
    go_wp2_with (at_builtin; refine Lib.wpList_append_run _ rfl _ _ _ _ rfl _ _ rfl rfl _ _ (hr _) ?_)
    go_ret
    exact ⟨_, rfl, OW.out, BB.out⟩

def tot (a b : Nat) : Nat → Nat
  | 0 => 0
  | 1 => a
  | _ => a + b
def preQ (ps1 ps2 : List QP) : Nat → List QP
  | 0 => []
  | 1 => ps1
  | _ => ps1 ++ ps2

set_option maxHeartbeats 4000000 in
set_option maxRecDepth 20000 in
theorem Concat_ok (ps1 ps2 : List QP) (hl : ps1.length + ps2.length ≤ 6) (B1 B2 : Nat) (v1 v2 : Value) (s : Nat) (w : World) (hs : Has w s 26 #[v1, v2]) (h1 : RowQ w B1 v1 ps1) (h2 : RowQ w B2 v2 ps2) :
    Calls Try.prog 64 #[.slice (some ⟨s, 0, none⟩) 2 2] w fun e w' => ∃ v', e = .returned v' ∧ RowQ w' w.heap.size v' (ps1 ++ ps2) ∧ Below w.heap.size w w' := by
  have GR := keep (fun w => Grow_ok (ps1.length + ps2.length) hl w)
  obtain ⟨A1, c1, rfl, _⟩ := qown_form h1
  obtain ⟨A2, c2, rfl, _⟩ := qown_form h2
  have H1 := keep h1
  have H2 := keep h2
  have S0 := keep hs
  have s0 := hs.cells 0
  have s1 := hs.cells 1
  have ls := hs.in_heap
  obtain ⟨i0, hi0, hz0, hz1, hz2⟩ := info_parts infoParticle
  have AR := keep (fun (wr : World) v n xs (m : Nat) v2 ys ty (ho : wr.ownsRow w.heap.size 52 4 v n xs) (B : Nat) (h2 : wr.ownsRow B 52 4 v2 m ys) h1 (hnm : n + m ≤ 6) hb => run_append_rows (P := Try.prog) wr w.heap.size B 26 ty 52 i0 _ 4 24 Try.underlying26 hi0 hz0 hz1 hz2 rfl (by decide) v v2 n m xs ys ho h2 h1 (by unfold maxLen; omega) (by omega) hb)
  clear h1 h2 hs hi0 hz0 hz1 hz2
  go_enter Try.func64, Try.ntmps64
  go_wp2_with fail
  go_loopw [11, 3] (fun s t wr => ∃ k : Nat, k ≤ 2 ∧ s = .int .i64 k ∧ t = .int .i64 (tot ps1.length ps2.length k : Nat) ∧ wr = w) (fun s _ _ => 2 - (intOf s).toNat)
  case atStart => exact ⟨0, by omega, rfl, rfl, rfl⟩
  case round =>
    obtain ⟨k, hk, rfl, rfl, hwr⟩ := hrel
    have hwr := hwr.symm
    subst hwr
    have hks : k = 0 ∨ k = 1 ∨ k = 2 := by omega
    rcases hks with rfl | rfl | rfl
    · have e0 : tot ps1.length ps2.length 0 = 0 := rfl
      have hn : ¬ ((ps1.length : Int) < 0) := by omega
      rw [e0]
      go_wp2_with fail
      go_roundw
      case rel => exact ⟨1, by omega, rfl, by show _ = Value.int .i64 ((ps1.length : Nat) : Int); go_num, by trivial⟩
      case measure => simp [intOf]
    · have e0 : tot ps1.length ps2.length 1 = ps1.length := rfl
      have hn : ¬ ((ps1.length : Int) + (ps2.length : Int) < 0) := by omega
      have hw : IntKind.i64.wrap ((ps1.length : Int) + (ps2.length : Int)) = (ps1.length : Int) + (ps2.length : Int) := IntWalk.i64_in _ ⟨by omega, by omega⟩
      rw [e0]
      go_wp2_with fail
      go_roundw
      case rel => exact ⟨2, by omega, rfl, by show _ = Value.int .i64 ((ps1.length + ps2.length : Nat) : Int); rw [Int.natCast_add], by trivial⟩
      case measure => simp [intOf]
    · have e0 : tot ps1.length ps2.length 2 = ps1.length + ps2.length := rfl
      rw [e0]
      clear s0 s1
      go_wp2_with fail
      refine (GR.out _).mono ?_
      rintro e w1 ⟨v', rfl, hr, hb⟩
      have R1 := keep hr
      have B1 := keep hb
      clear hr hb GR
      go_wp2_with fail
      go_loopw [27, 6] (fun s t wx => ∃ k : Nat, k ≤ 2 ∧ s = .int .i64 k ∧ Kept (wx.ownsRow w.heap.size 52 4 t (preQ ps1 ps2 k).length (psQ (preQ ps1 ps2 k))) ∧ Kept (Below w.heap.size w wx)) (fun s _ _ => 2 - (intOf s).toNat)
      case atStart => exact ⟨0, by omega, rfl, R1, B1⟩
      case round =>
        clear R1 B1
        obtain ⟨k, hk, rfl, hR, hb⟩ := hrel
        have hks : k = 0 ∨ k = 1 ∨ k = 2 := by omega
        rcases hks with rfl | rfl | rfl
        · have s0 := (hb.out.cell (p := ⟨s, 0, none⟩) ls).trans (S0.out.cells 0)
          have s1 := (hb.out.cell (p := ⟨s, 1, none⟩) ls).trans (S0.out.cells 1)
          obtain ⟨v5, w5, hrun, ho5, hg5⟩ := AR.out _ _ _ _ _ _ _ 26 hR.out _ (owns_below H1.out hb.out) (psCells_one _) (by show 0 + ps1.length ≤ 6; omega) hb.out.size
          have O5 := keep ho5
          have B5 := keep (hb.out.grown hg5 hb.out.size (fun b e => (hR.out.lt b e).1))
          clear ho5 hg5 AR
          go_wp2_with (at_builtin; refine Lib.wpList_append_run _ rfl _ _ _ _ rfl _ _ rfl rfl _ _ hrun ?_)
          go_roundw
          case rel => exact ⟨1, by omega, rfl, keep (by
            have e := O5.out
            rw [show (preQ ps1 ps2 0).length + ps1.length = ps1.length from Nat.zero_add _] at e
            exact e), B5⟩
          case measure => simp [intOf]
        · have s0 := (hb.out.cell (p := ⟨s, 0, none⟩) ls).trans (S0.out.cells 0)
          have s1 := (hb.out.cell (p := ⟨s, 1, none⟩) ls).trans (S0.out.cells 1)
          obtain ⟨v5, w5, hrun, ho5, hg5⟩ := AR.out _ _ _ _ _ _ _ 26 hR.out _ (owns_below H2.out hb.out) (psCells_one _) (by show ps1.length + ps2.length ≤ 6; omega) hb.out.size
          have O5 := keep ho5
          have B5 := keep (hb.out.grown hg5 hb.out.size (fun b e => (hR.out.lt b e).1))
          clear ho5 hg5 AR
          go_wp2_with (at_builtin; refine Lib.wpList_append_run _ rfl _ _ _ _ rfl _ _ rfl rfl _ _ hrun ?_)
          go_roundw
          case rel => exact ⟨2, by omega, rfl, keep (by
            have e := O5.out
            show World.ownsRow _ _ _ _ _ (ps1 ++ ps2).length (psQ (ps1 ++ ps2))
            rw [psQ_append, List.length_append]
            exact e), B5⟩
          case measure => simp [intOf]
        · go_wp2_with fail
          go_ret
          exact ⟨_, rfl, hR.out, hb.out⟩
end Go.Proofs.Ytnmdgbnophclnaa
