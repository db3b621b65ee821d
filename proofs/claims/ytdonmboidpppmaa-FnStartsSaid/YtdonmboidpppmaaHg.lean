/- Contracts: a list copied; a list thrown back. Contract: a list thrown back. -/
import Derived.Test.YtdonmboidpppmaaHe
namespace Go.Proofs.Ytdonmboidpppmaa
open Go.RowKit Go.Sort Ieee
set_option linter.unusedSimpArgs false

theorem cells_one (p : PD) : ∀ u ∈ p.cells, u.oneCell' = true := by
  intro u hu
  simp only [PD.cells, List.mem_cons, List.not_mem_nil, or_false] at hu
  rcases hu with rfl | rfl | rfl | rfl <;> rfl
theorem psCells_one (ps : List PD) : ∀ u ∈ psCells ps, u.oneCell' = true := by
  intro u hu
  obtain ⟨p, _, h⟩ := List.mem_flatMap.1 hu
  exact cells_one p u h

theorem own_slice {w : World} {B e size n : Nat} {v : Value} {xs : List Value} (h : w.ownsRow B e size v n xs) : ∃ A c, v = .slice A n c := by
  rcases h.2 with ⟨rfl, hn⟩ | ⟨g, cap, cur, rfl, _⟩
  · exact ⟨_, _, by rw [hn]⟩
  · exact ⟨_, _, rfl⟩
theorem eql_nil (a : Option Addr) (l c : Nat) (w : World) : (binOp .eql 27 (.slice a l c) (.slice none 0 0)).run Try.prog w = .ok (.bool a.isNone) w := by
  have h : (binOp .eql 27 (.slice a l c) (.slice none 0 0)) = (do let b ← Op.equal 27 (.slice a l c) (.slice none 0 0); pure (.bool b)) := rfl
  rw [h]
  simp only [Sem.run_bind, Sem.run_pure, run_equal_slice_nil w 27 41 a l c Try.underlying27, Result.andThen_ok]

set_option maxHeartbeats 1000000 in
set_option maxRecDepth 20000 in
theorem Clone_ok (B : Nat) (v : Value) (ps : List PD) (w : World) (h : w.ownsRow B 41 4 v ps.length (psCells ps)) (hN : ps.length ≤ 1000) :
    Calls Try.prog 55 #[v] w fun e w' => ∃ (A : Option Addr) (c : Nat), e = .returned (.slice A ps.length c) ∧ w'.ownsRow w.heap.size 41 4 (.slice A ps.length c) ps.length (psCells ps) ∧ Below w.heap.size w w' := by
  obtain ⟨i0, hi0, hz0, hz1, hz2⟩ := info_parts infoParticle
  have HI := keep hi0
  have HZ0 := keep hz0
  have HZ1 := keep hz1
  have HZ2 := keep hz2
  clear hi0 hz0 hz1 hz2
  rcases h.2 with ⟨rfl, hn⟩ | ⟨g, cap, cur, rfl, hB, hg, hnc, hcm, hcs, htake⟩
  · have hp : ps = [] := List.eq_nil_of_length_eq_zero hn
    subst hp
    have en := eql_nil none 0 0
    clear h hN
    go_enter Try.func55, Try.ntmps55
    go_wp2_with fail
    go_ret
    exact ⟨none, 0, rfl, World.ownsRow_nil _ _ _ _, Below.refl _ _⟩
  · have hlt := (h.lt g rfl).2
    have HC := keep (fun j u hu => h.cells (g := g) rfl j u hu)
    have HP := keep (psCells_length ps)
    have R := keep (Has.made w 41 #[])
    have O5 : Kept ((w.alloc (.cells #[] 41)).ownsRow w.heap.size 41 4 (.slice (some ⟨w.heap.size, 0, none⟩) 0 0) 0 []) := keep ⟨rfl, .inr ⟨w.heap.size, 0, #[], rfl, Nat.le_refl _, R.out, Nat.le_refl _, by simp [maxLen], rfl, rfl⟩⟩
    have en := eql_nil (some ⟨g, 0, none⟩) ps.length cap
    clear h hcs htake hg R
    go_enter Try.func55, Try.ntmps55
    go_wp2_with (at_builtin; go_loud (refine wpList_append_own_at _ rfl _ _ 27 rfl w.heap.size 41 i0 _ 4 24 Try.underlying27 HI.out HZ0.out HZ1.out HZ2.out rfl (by decide) (.slice (some ⟨w.heap.size, 0, none⟩) 0 0) 0 _ rfl O5.out ⟨g, 0, none⟩ ps.length cap (psCells ps) rfl HP.out ?c1 (psCells_one ps) ?c3 ?c4 ?c5 ?_))
    case c1 =>
      intro j u hj
      have h1 := HC.out j u hj
      rw [Addr.add_lit] at h1 ⊢
      exact (((Below.refl w.heap.size w).alloc (Nat.le_refl _) (.cells #[] 41)).cell (p := ⟨g, 0 + j, none⟩) hlt).trans h1
    case c3 => unfold maxLen; omega
    case c4 => omega
    case c5 => first | omega | (simp only [World.size_alloc]; omega)
    intro v' w5 hown' hgrow _ _
    obtain ⟨A, c, rfl⟩ := own_slice hown'
    have bX : Below w.heap.size (w.alloc (.cells #[] 41)) w5 := (Below.refl w.heap.size _).grown hgrow (by simp only [World.size_alloc]; omega) (fun b e => (O5.out.lt b e).1)
    have B6 := keep (((Below.refl w.heap.size w).alloc (Nat.le_refl _) (.cells #[] 41)).trans bX)
    have OW := keep hown'
    clear hown' hgrow bX
    go_wp2_with fail
    go_ret
    exact ⟨A, c, rfl, OW.out, B6.out⟩

theorem mix_write (cur : Array Value) (gs : List GP) (f : GP → PD) (cap i : Nat) (hi : i < gs.length) (hc : gs.length ≤ cap) (hs : cur.size = cap * 4)
    (ht : cur.toList.take (i * 4) = psCells ((gs.take i).map f)) :
    ((((cur.setIfInBounds (i * 4) (.complex .f32 (f gs[i]).a (f gs[i]).b)).setIfInBounds (i * 4 + 1) (.complex .f32 (f gs[i]).c (f gs[i]).d)).setIfInBounds (i * 4 + 2) (.float .f32 (f gs[i]).q)).setIfInBounds (i * 4 + 3) (.float .f32 (f gs[i]).m)).toList.take ((i + 1) * 4) = psCells ((gs.take (i + 1)).map f) := by
  rw [take_set4 cur (i * 4) _ _ _ _ (by omega) _ (by omega), ht, List.take_succ_eq_append_getElem hi, List.map_append, psCells_append]
  rfl
theorem set4_far (cur : Array Value) (a b c d : Nat) (u v x y : Value) (j : Nat) (ha : a ≠ j) (hb : b ≠ j) (hc : c ≠ j) (hd : d ≠ j) : ((((cur.setIfInBounds a u).setIfInBounds b v).setIfInBounds c x).setIfInBounds d y)[j]? = cur[j]? := by
  rw [Array.getElem?_setIfInBounds_ne hd, Array.getElem?_setIfInBounds_ne hc, Array.getElem?_setIfInBounds_ne hb, Array.getElem?_setIfInBounds_ne ha]
end Go.Proofs.Ytdonmboidpppmaa
namespace Go.Proofs.Ytdonmboidpppmaa
open Go.RowKit Go.Sort Ieee
set_option linter.unusedSimpArgs false

theorem own_base {w : World} {B B' e size n : Nat} {v : Value} {xs : List Value} (h : w.ownsRow B e size v n xs) (hB : B' ≤ B) : w.ownsRow B' e size v n xs := by
  refine ⟨h.1, ?_⟩
  rcases h.2 with h1 | ⟨g, cap, cur, h1, h2, h3⟩
  · exact .inl h1
  · exact .inr ⟨g, cap, cur, h1, Nat.le_trans hB h2, h3⟩
def cntOut (L H : Int) (gs : List GP) : Nat := (gs.filter (isOut L H)).length
theorem cntOut_take (L H : Int) (gs : List GP) (i : Nat) (h : i < gs.length) : cntOut L H (gs.take (i + 1)) = cntOut L H (gs.take i) + (if isOut L H gs[i] then 1 else 0) := by
  unfold cntOut
  rw [filter_take (isOut L H) gs i h, List.length_append]
  cases isOut L H gs[i] <;> rfl

theorem reflAll_ok {L H : Int} (hw : Walls L H) (gs : List GP) (hok : ∀ p ∈ gs, p.ok) : (gs.map (reflD L H)).all PD.ok = true := by
  rw [List.all_map]
  exact List.all_eq_true.2 fun p hp => reflD_ok hw (hok p hp)

end Go.Proofs.Ytdonmboidpppmaa
