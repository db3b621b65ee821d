/- Contracts: the order of a cloud's particles by their cells. -/
import Derived.Test.YtnmdgbnophclnaaOe
namespace Go.Proofs.Ytnmdgbnophclnaa
open Go.RowKit Go.Sort Ieee
set_option linter.unusedSimpArgs false

section
variable (k : Nat → Nat) (o : List Nat) (g : Nat) (ptr : Value) (w : World) (hh : Has w g 2 (nCells o))
    (hC : ∀ w1, w.grownBy w1 (some g) → ∀ x ∈ o, ∀ y ∈ o, Calls Try.prog 90 #[.int .i64 x, .int .i64 y, ptr] w1 fun e w' => e = .returned (.int .i64 (compV (k x) (k y))) ∧ ∃ m, w' = w1.drewN m)
    (tie : o.Pairwise (fun a b => k a = k b → a < b)) (hn : o.length ≤ 19)
include hh hC tie hn
set_option maxHeartbeats 4000000 in
set_option maxRecDepth 20000 in
theorem stableCmp_ok :
    Calls Try.prog 119 #[.slice (some ⟨g, 0, none⟩) o.length o.length, .int .i64 o.length, ordC ptr] w fun e w' => e = .returned (.tuple #[]) ∧ ∃ d, d.Perm o ∧ d.Pairwise (Ord k) ∧ Has w' g 2 (nCells d) ∧ w.grownBy w' (some g) := by
  have IC := keep (insCmp_ok k o g ptr w hh hC tie (by omega))
  have h1 : ¬ ((20 : Int) ≤ (o.length : Int)) := by omega
  clear hh hC tie
  unfold ordC at *
  go_enter Try.func119, Try.ntmps119
  go_wp2_with fail
  go_loopw [7, 8] (fun s t wr => s = .int .i64 0 ∧ t = .int .i64 20 ∧ wr = w) (fun _ _ _ => 0)
  case atStart => exact ⟨rfl, rfl, rfl⟩
  case round =>
    obtain ⟨rfl, rfl, rfl⟩ := hrel
    go_wp2_with fail
    refine IC.out.mono ?_
    rintro e w' ⟨rfl, d, h1, h2, h3, h4⟩
    have H1 := keep h1
    have H2 := keep h2
    have H3 := keep h3
    have H4 := keep h4
    have h5 : ¬ ((20 : Int) < (o.length : Int)) := by omega
    clear h1 h2 h3 h4 IC
    go_wp2_with fail
    go_loopw [6] (fun s wr => s = .int .i64 20 ∧ wr = w') (fun _ _ => 0)
    case atStart => exact ⟨rfl, rfl⟩
    case round =>
      obtain ⟨rfl, rfl⟩ := hrel
      go_wp2_with fail
      go_end0
      exact ⟨rfl, d, H1.out, H2.out, H3.out, H4.out⟩

set_option maxHeartbeats 4000000 in
set_option maxRecDepth 20000 in
theorem SortStable_ok :
    Calls Try.prog 89 #[.slice (some ⟨g, 0, none⟩) o.length o.length, ordC ptr] w fun e w' => e = .returned (.tuple #[]) ∧ ∃ d, d.Perm o ∧ d.Pairwise (Ord k) ∧ Has w' g 2 (nCells d) ∧ w.grownBy w' (some g) := by
  have SC := keep (stableCmp_ok k o g ptr w hh hC tie hn)
  clear hh hC tie
  unfold ordC at *
  go_enter Try.func89, Try.ntmps89
  go_wp2_with fail
  refine SC.out.mono ?_
  rintro e w' ⟨rfl, d, h1, h2, h3, h4⟩
  have H1 := keep h1
  have H2 := keep h2
  have H3 := keep h3
  have H4 := keep h4
  clear h1 h2 h3 h4
  go_wp2_with fail
  go_end0
  exact ⟨rfl, d, H1.out, H2.out, H3.out, H4.out⟩
end

def mixI (n i : Nat) : List Nat := List.range i ++ List.replicate (n - i) 0
theorem mixI_length (n i : Nat) (h : i ≤ n) : (mixI n i).length = n := by unfold mixI; simp; omega
theorem mixI_step (n i : Nat) (h : i < n) : (mixI n i).set i i = mixI n (i + 1) := by
  unfold mixI
  rw [List.set_append_right _ _ (by simp), List.length_range, Nat.sub_self, show n - i = (n - (i + 1)) + 1 by omega, List.replicate_succ, List.set_cons_zero, List.range_succ, List.append_assoc]
  rfl
theorem mixI_zero (n : Nat) : mixI n 0 = List.replicate n 0 := by unfold mixI; simp
theorem mixI_full (n : Nat) : mixI n n = List.range n := by unfold mixI; simp
theorem row_cells' {w : World} {B g c n : Nat} {ns : List Nat} (h : w.ownsRow B 2 1 (.slice (some ⟨g, 0, none⟩) n c) n (nList ns)) : ∀ i (h : i < ns.length), w.cell? ⟨g, i, none⟩ = some (.int .i64 (ns[i] : Int)) := fun i hi => by
  have h2 := h.cells (g := g) rfl i _ (nList_at ns i hi)
  rwa [Addr.add_lit, Nat.zero_add] at h2
theorem row_cells {w : World} {B g c : Nat} {ns : List Nat} (h : RowN w B (.slice (some ⟨g, 0, none⟩) ns.length c) ns) : ∀ i (h : i < ns.length), w.cell? ⟨g, i, none⟩ = some (.int .i64 (ns[i] : Int)) := fun i hi => by
  have h2 := h.cells (g := g) rfl i _ (nList_at ns i hi)
  rwa [Addr.add_lit, Nat.zero_add] at h2

/-- The key of a particle: its cell. -/
def keyOf (W H : Nat) (ps : List QP) (i : Nat) : Nat := (ps.map (cellN W H)).getD i 0
theorem keyOf_lt (W H : Nat) (h : Sides W H) (ps : List QP) (i : Nat) (hi : i < ps.length) : keyOf W H ps i < W * H := by
  unfold keyOf
  rw [List.getD_eq_getElem?_getD, List.getElem?_eq_getElem (by rw [List.length_map]; exact hi), Option.getD_some, List.getElem_map]
  exact cellN_lt W H h _
/-- The order of a cloud. -/
def orderL (W H : Nat) (ps : List QP) : List Nat := byKey (keyOf W H ps) (W * H) ps.length
theorem orderL_length (W H : Nat) (h : Sides W H) (ps : List QP) : (orderL W H ps).length = ps.length := by
  have := (byKey_perm (keyOf W H ps) (W * H) ps.length (keyOf_lt W H h ps)).length_eq
  rw [List.length_range] at this
  exact this

set_option maxHeartbeats 4000000 in
set_option maxRecDepth 20000 in
theorem order_ok (W H : Nat) (ps : List QP) (m b : Nat) (h : CloudOk W H ps m b) (B : Nat) (v : Value) (w : World) (hown : RowQ w B v ps) :
    Calls Try.prog 47 #[cloudV W H v m b] w fun e w' => ∃ g, e = .returned (.slice (some ⟨g, 0, none⟩) ps.length ps.length) ∧ Has w' g 2 (nCells (orderL W H ps)) ∧ Below w.heap.size w w' := by
  have P := keep (Has.made w 29 #[.int .i64 W, .int .i64 H, v, .float .f32 m, .float .f32 b])
  have B0 := keep ((Below.refl w.heap.size w).alloc (Nat.le_refl _) (.cells #[.int .i64 W, .int .i64 H, v, .float .f32 m, .float .f32 b] 29))
  have CE := keep (cells_ok W H ps m b h B v _ (owns_below hown B0.out))
  have LK := keep (keyOf_lt W H h.sides ps)
  have hl := h.len
  have MK := keep (run_mkI ps.length (by omega))
  have SS := keep (fun (k : Nat → Nat) g ptr w hh hC tie => SortStable_ok k (List.range ps.length) g ptr w hh hC tie (by rw [List.length_range]; omega))
  have OB := keep (fun G g n c i j ks hn hi hj w h0 hk => orderBy_ok G g n c i j ks hn hi hj w h0 hk)
  have ML := keep (show (ps.map (cellN W H)).length = ps.length from List.length_map _)
  clear hown h
  unfold cloudV at *
  go_enter Try.func47, Try.ntmps47
  have cg := P.out.cells
  go_wp2_with fail
  refine CE.out.mono ?_
  rintro e w1 ⟨v1, rfl, hr, hb⟩
  obtain ⟨A1, c1, rfl⟩ := own_slice hr
  unfold RowN at hr
  rw [ML.out] at hr ⊢
  have G1 := keep (Has.made w1 31 #[.slice A1 ps.length c1])
  have cG := G1.out.cells
  have mk := MK.out (w1.alloc (.cells #[.slice A1 ps.length c1] 31))
  have zi := nCells_zero ps.length
  rw [← mixI_zero] at zi
  rw [zi] at mk
  have HR := keep hr
  have B1 := keep (B0.out.trans (hb.mono B0.out.size))
  clear hr hb zi P B0 CE
  go_wp2_with fail
  clear mk cG cg
  have G2 := keep (G1.out.beside (.cells (nCells (mixI ps.length 0)) 2))
  have F2 := keep (Has.made (w1.alloc (.cells #[.slice A1 ps.length c1] 31)) 2 (nCells (mixI ps.length 0)))
  rw [World.size_alloc] at F2
  have R2 := keep ((HR.out.alloc (.cells #[.slice A1 ps.length c1] 31)).alloc (.cells (nCells (mixI ps.length 0)) 2))
  have B2 := keep ((B1.out.alloc B1.out.size (.cells #[.slice A1 ps.length c1] 31)).alloc (B1.out.alloc B1.out.size (.cells #[.slice A1 ps.length c1] 31)).size (.cells (nCells (mixI ps.length 0)) 2))
  have hne : (Value.slice A1 ps.length c1).ownBlock ≠ some (w1.heap.size + 1) := fun e => by
    have h := (HR.out.lt _ e).2
    omega
  generalize hW2 : (w1.alloc (.cells #[.slice A1 ps.length c1] 31)).alloc (.cells (nCells (mixI ps.length 0)) 2) = W2 at *
  have g0 := keep (World.grownBy.refl W2 (some (w1.heap.size + 1)))
  clear hW2 G1 HR MK
  go_loopw [13] (fun s wr => ∃ i : Nat, i ≤ ps.length ∧ s = .int .i64 i ∧ Kept (Has wr (w1.heap.size + 1) 2 (nCells (mixI ps.length i))) ∧ Kept (W2.grownBy wr (some (w1.heap.size + 1)))) (fun s _ => ps.length - (intOf s).toNat)
  case atStart => exact ⟨0, Nat.zero_le _, rfl, F2, g0⟩
  case round =>
    clear F2 g0
    obtain ⟨i, hi, rfl, hd, hg⟩ := hrel
    by_cases hlt : i < ps.length
    · have ML2 := keep (mixI_length ps.length i hi)
      have ci := (hd.out.cells i).trans (nCells_at (mixI ps.length i) i (by rw [ML2.out]; exact hlt))
      have ui := hd.out.free i
      have D2 : Kept (Has (wr.setCell ⟨w1.heap.size + 1, i, none⟩ (.int .i64 (i : Int))) (w1.heap.size + 1) 2 (nCells (mixI ps.length (i + 1)))) := keep (by
        rw [← mixI_step ps.length i hlt, ← nCells_set]
        exact hd.out.written i (.int .i64 (i : Int)))
      have H2 := keep (gb_store hg.out i (.int .i64 (i : Int)))
      generalize (mixI ps.length i)[i]'(by rw [ML2.out]; exact hlt) = old at *
      clear hd hg SS OB
      go_wp2_with fail
      go_roundw
      case rel => exact ⟨i + 1, by omega, by go_num, D2, H2⟩
      case measure => simp [intOf]; omega
    · obtain rfl : i = ps.length := by omega
      have hd2 := hd.out
      rw [mixI_full] at hd2
      have SO := keep (SS.out (keyOf W H ps) (w1.heap.size + 1) (.pointer (some ⟨w1.heap.size, 0, none⟩)) wr hd2 (fun wX hgX x hx y hy => by
        have x1 := List.mem_range.1 hx
        have y1 := List.mem_range.1 hy
        have hgt := gb_trans hg.out hgX
        have rX := R2.out.kept hgt (.inr hne)
        obtain ⟨gk, ck, e1, _, _⟩ := rX.form (by omega)
        injection e1 with e2 e3 e4
        subst e2
        have gX := G2.out.byG hgt (by intro e; injection e with e; omega)
        exact OB.out w1.heap.size gk ps.length c1 x y (ps.map (cellN W H)) ML.out x1 y1 wX (gX.cells 0) (fun i hi => row_cells' rX i hi)) (List.Pairwise.imp (S := fun a b => keyOf W H ps a = keyOf W H ps b → a < b) (fun {a b} h _ => h) (List.pairwise_lt_range (n := ps.length))))
      rw [List.length_range] at SO
      have HG := keep hg.out
      clear SS OB hd hd2 hg
      unfold ordC at SO
      go_wp2_with fail
      refine SO.out.mono ?_
      rintro e w3 ⟨rfl, d, h1, h2, h3, h4⟩
      have hd := byKey_of LK.out h1 h2
      subst hd
      have H3 := keep h3
      have B3 := keep (B2.out.grown (gb_trans HG.out h4) B2.out.size (fun g e => by injection e with e; have := B1.out.size; omega))
      clear h1 h2 h3 h4 SO
      go_wp2_with fail
      go_ret
      exact ⟨_, rfl, H3.out, B3.out⟩
end Go.Proofs.Ytnmdgbnophclnaa
