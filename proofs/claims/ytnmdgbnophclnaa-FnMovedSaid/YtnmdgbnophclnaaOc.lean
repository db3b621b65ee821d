/- Contract: a drawn cloud of particles in eighths. -/
import Derived.Test.YtnmdgbnophclnaaOb
import Derived.Test.YtnmdgbnophclnaaHb
import Derived.Test.YtnmdgbnophclnaaHg
import Derived.Deep.RegionLaw
namespace Go.Proofs.Ytnmdgbnophclnaa
open Go.RowKit Go.Sort Ieee
set_option linter.unusedSimpArgs false

def cloudV (W H : Nat) (v : Value) (m b : Nat) : Value := .agg #[.int .i64 W, .int .i64 H, v, .float .f32 m, .float .f32 b]
def cloudC (W H : Nat) (v : Value) (m b : Nat) : Array Value := #[.int .i64 W, .int .i64 H, v, .float .f32 m, .float .f32 b]

theorem own_low {w : World} {B e n size g o : Nat} {v : Value} {xs : List Value} (h : w.ownsRow B e size v n xs) (hg : g < B) (u : Value) : (w.setCell ⟨g, o, none⟩ u).ownsRow B e size v n xs :=
  h.kept (gb_row w g o u) (.inr fun e => by have := (h.lt g e).1; omega)

set_option maxHeartbeats 4000000 in
set_option maxRecDepth 20000 in
theorem B10Cloud_ok (a : Option Addr) (n c : Nat) (w : World) (hb : Bytes w a n) :
    Calls Try.prog 7 #[.slice a n c] w fun e w' => ∃ (W H : Nat) (ps : List QP) (v : Value) (mg bk : Int), (Sides W H ∧ H ≤ 6) ∧ ps.length ≤ 6 ∧ (∀ p ∈ ps, p.ok) ∧ mg.natAbs ≤ 4 ∧ bk.natAbs ≤ 2 ∧ e = .returned (cloudV W H v (wd single 2 mg) (wd single 3 bk)) ∧ w'.ownsRow (w.heap.size + 1) 52 4 v ps.length (psCells (ps.map QP.pd)) ∧ Below w.heap.size w w' := by
  have P0 := keep (Has.made w 29 #[.int .i64 0, .int .i64 0, .slice none 0 0, .float .f32 0, .float .f32 0])
  have B0 := keep ((Below.refl w.heap.size w).alloc (Nat.le_refl _) (.cells #[.int .i64 0, .int .i64 0, .slice none 0 0, .float .f32 0, .float .f32 0] 29))
  have FR := keep (l00From_ok a n c _ (hb.alloc (.cells #[.int .i64 0, .int .i64 0, .slice none 0 0, .float .f32 0, .float .f32 0] 29)))
  have DG := keep (fun w1 h => l02DrawGrid_ok (w.heap.size + 1) a n c 0 w1 h (by omega))
  have PK := keep (fun m K w1 h hK h1 h2 => pick_ok m (w.heap.size + 1) a n c K w1 h hK h1 h2)
  have DO := keep (fun K w1 h hK => b10One_any (w.heap.size + 1) a n c K w1 h hK)
  clear hb
  go_enter Try.func7, Try.ntmps7
  go_wp2_with fail
  refine FR.out.mono ?_
  rintro e w1 ⟨rfl, hd, hb⟩
  rw [World.size_alloc] at hd
  have D1 := keep hd
  have P1 := keep (P0.out.after hb)
  have B1 := keep (B0.out.trans (hb.mono B0.out.size))
  clear hd hb P0 B0 FR
  go_wp2_with fail
  refine (DG.out _ D1.out).mono ?_
  rintro e w2 ⟨W, H, hs, rfl, hd, hg⟩
  have HS := keep hs
  have D2 := keep hd
  have P2 := keep (P1.out.byG hg (by intro e; injection e with e; omega))
  have B2 := keep (B1.out.grown hg B1.out.size (fun g e => by injection e with e; omega))
  have z2 := hd.lt
  unfold gridV
  clear hd hg P1 B1 D1 DG hs
  go_wp2_with fail
  have D3 := keep ((D2.out.alloc (.cells #[] 52)).alloc (.cells #[.int .i64 W, .int .i64 H, .slice (some ⟨w2.heap.size, 0, none⟩) 0 0, .float .f32 0, .float .f32 0] 29))
  have R3 := keep ((Has.made w2 52 #[]).beside (.cells #[.int .i64 W, .int .i64 H, .slice (some ⟨w2.heap.size, 0, none⟩) 0 0, .float .f32 0, .float .f32 0] 29))
  have C3 := keep (Has.made (w2.alloc (.cells #[] 52)) 29 #[.int .i64 W, .int .i64 H, .slice (some ⟨w2.heap.size, 0, none⟩) 0 0, .float .f32 0, .float .f32 0])
  rw [World.size_alloc] at C3
  have P3 := keep ((P2.out.beside (.cells #[] 52)).beside (.cells #[.int .i64 W, .int .i64 H, .slice (some ⟨w2.heap.size, 0, none⟩) 0 0, .float .f32 0, .float .f32 0] 29))
  have B3 := keep ((B2.out.alloc B2.out.size (.cells #[] 52)).alloc (B2.out.alloc B2.out.size (.cells #[] 52)).size (.cells #[.int .i64 W, .int .i64 H, .slice (some ⟨w2.heap.size, 0, none⟩) 0 0, .float .f32 0, .float .f32 0] 29))
  refine (PK.out 7 _ _ D3.out (by omega) (by omega) (by omega)).mono ?_
  rintro e w4 ⟨r, hr, rfl, hd, hg⟩
  have D4 := keep hd
  have P4 := keep (P3.out.byG hg (by intro e; injection e with e; omega))
  have R4 := keep (R3.out.byG hg (by intro e; injection e with e; omega))
  have C4 := keep (C3.out.byG hg (by intro e; injection e with e; omega))
  have B4 := keep (B3.out.grown hg B3.out.size (fun g e => by injection e with e; omega))
  clear hd hg P3 R3 C3 B3 D3 P2 B2 D2
  go_wp2_with fail
  go_loopw [5] (fun t wr => ∃ (j : Nat) (ps : List QP) (A : Option Addr) (cp : Nat), j + ps.length ≤ 6 ∧ t = .int .i64 j ∧ (Value.slice A ps.length cp).ownBlock ≠ some (w2.heap.size + 1) ∧ Kept (∀ p ∈ ps, p.ok) ∧ Kept (Has wr (w2.heap.size + 1) 29 #[.int .i64 W, .int .i64 H, .slice A ps.length cp, .float .f32 0, .float .f32 0]) ∧ Kept (wr.ownsRow (w.heap.size + 2) 52 4 (.slice A ps.length cp) ps.length (psCells (ps.map QP.pd))) ∧ Kept (Drawn wr (w.heap.size + 1) a n c (3 + 6 * ps.length)) ∧ Kept (Has wr w.heap.size 29 #[.int .i64 0, .int .i64 0, .slice none 0 0, .float .f32 0, .float .f32 0]) ∧ Kept (Below w.heap.size w wr)) (fun t _ => (intOf t).toNat)
  case atStart => exact ⟨r, [], _, _, by simp; omega, rfl, by simp [Value.ownBlock], keep (fun p h => by cases h), C4, keep ⟨rfl, .inr ⟨w2.heap.size, 0, #[], rfl, by omega, R4.out, Nat.le_refl _, by simp [maxLen], rfl, rfl⟩⟩, D4, P4, B4⟩
  case round =>
    clear D4 P4 R4 C4 B4
    obtain ⟨j, ps, A, cp, hj, rfl, hne, hok, hc, ho, hd, hP, hbr⟩ := hrel
    by_cases hlt : 0 < j
    · have hi : ((0 : Int) < (j : Int)) := by omega
      have hbX := Below.drew (Below.refl wr.heap.size wr)
      have cX := hc.out.after hbX
      have HC := keep cX
      have HO := keep (owns_below ho.out hbX)
      have HD := keep (hd.out.after hbX)
      have HP := keep (hP.out.after hbX)
      have HB := keep (Below.drew hbr.out)
      have c0 := cX.cells
      obtain ⟨i0, hi0, hz0, hz1, hz2⟩ := info_parts infoParticle
      have HI := keep hi0
      have HZ0 := keep hz0
      have HZ1 := keep hz1
      have HZ2 := keep hz2
      have lC := cX.in_heap
      clear hi0 hz0 hz1 hz2 hbX cX hd hc ho hP hbr
      go_wp2_with fail
      go_region_law (first
        | (refine step_append_lies _ rfl (.tmp 19) (.tmp 22) 26 rfl (w.heap.size + 2) 52 i0 _ 4 24 Try.underlying26 HI.out HZ0.out HZ1.out HZ2.out rfl (by decide) (.slice A ps.length cp) ps.length _ (by simp [Act.eval, Act.put]) (O4.out.alloc _) ⟨w3.heap.size, 0, none⟩ 1 1 (QP.pd p).cells (by simp [Act.eval, Act.put]) rfl NW.out ON.out (by decide) (by show ps.length + 1 ≤ 9223372036854775807; omega) (by omega) (by rw [World.size_alloc]; omega) _ rfl ?_
           intro g5 cap5 w5 hown5 hgrow5 hor5 hlt5
           have C5 := keep ((C4.out.beside (.cells #[.complex .f32 (wd single 3 p.x) (wd single 3 p.y), .complex .f32 (wd single 3 p.u) (wd single 3 p.v), .float .f32 (wd single 2 p.q), .float .f32 (wd single 1 p.m)] 52)).byG hgrow5 hne)
           have c5 := C5.out.cells
           have u5 := C5.out.free)
        | (go_simp
           go_at_call 45
           refine (DO.out _ _ HD.out (by omega)).mono ?_
           rintro e w3 ⟨p, hp, rfl, hd3, hg3⟩
           have D4 := keep hd3
           have C4 := keep (HC.out.byG hg3 (by intro e; injection e with e; omega))
           have c4 := C4.out.cells
           have O4 := keep (own_byG HO.out hg3 (by omega))
           have P4 := keep (HP.out.byG hg3 (by intro e; injection e with e; omega))
           have B4 := keep (HB.out.grown hg3 HB.out.size (fun g e => by injection e with e; omega))
           have l4 := C4.out.in_heap
           have PO := keep hp
           have NW := keep (four_new (Has.made w3 52 #[.complex .f32 (wd single 3 p.x) (wd single 3 p.y), .complex .f32 (wd single 3 p.u) (wd single 3 p.v), .float .f32 (wd single 2 p.q), .float .f32 (wd single 1 p.m)]))
           have ON : Kept (∀ u ∈ (QP.pd p).cells, u.oneCell' = true) := keep (fun u hu => by
             rw [QP.pd_cells] at hu
             simp only [List.mem_cons, List.not_mem_nil, or_false] at hu
             rcases hu with rfl | rfl | rfl | rfl <;> rfl)
           clear hp hd3 hg3
           unfold QP.agg))
      all_goals (
        have hL := O4.out.lt
        have bX : Below (w.heap.size + 2) _ w5 := (Below.refl (w.heap.size + 2) _).grown hgrow5 (by simp only [World.size_alloc]; omega) (fun b e => (hL b e).1)
        have hg5 : g5 ≠ w2.heap.size + 1 := by
          rcases hor5 with h5 | h5
          · intro e; exact hne (by rw [h5, e])
          · rw [World.size_alloc] at h5; omega
        have C6 := keep (C5.out.written 2 (.slice (some ⟨g5, 0, none⟩) (ps.length + 1) cap5))
        have D6 := keep (((D4.out.alloc (.cells #[.complex .f32 (wd single 3 p.x) (wd single 3 p.y), .complex .f32 (wd single 3 p.u) (wd single 3 p.v), .float .f32 (wd single 2 p.q), .float .f32 (wd single 1 p.m)] 52)).later bX (by omega)).later ((Below.refl (w.heap.size + 2) w5).setCell (p := ⟨w2.heap.size + 1, 2, none⟩) (by show w.heap.size + 2 ≤ w2.heap.size + 1; omega) (.slice (some ⟨g5, 0, none⟩) (ps.length + 1) cap5)) (by omega))
        have bS := (Below.refl (w.heap.size + 2) w5).setCell (p := ⟨w2.heap.size + 1, 2, none⟩) (by show w.heap.size + 2 ≤ w2.heap.size + 1; omega) (.slice (some ⟨g5, 0, none⟩) (ps.length + 1) cap5)
        have O6 := keep (hown5.kept (gb_row w5 (w2.heap.size + 1) 2 (.slice (some ⟨g5, 0, none⟩) (ps.length + 1) cap5)) (.inr (fun e => hg5 (by injection e with e))))
        have P6 := keep (((P4.out.beside (.cells #[.complex .f32 (wd single 3 p.x) (wd single 3 p.y), .complex .f32 (wd single 3 p.u) (wd single 3 p.v), .float .f32 (wd single 2 p.q), .float .f32 (wd single 1 p.m)] 52)).later bX (by omega)).later bS (by omega))
        have B6 := keep ((B4.out.alloc B4.out.size (.cells #[.complex .f32 (wd single 3 p.x) (wd single 3 p.y), .complex .f32 (wd single 3 p.u) (wd single 3 p.v), .float .f32 (wd single 2 p.q), .float .f32 (wd single 1 p.m)] 52)).trans ((bX.mono (by omega)).trans (bS.mono (by omega))))
        clear hL bX bS C5 c5 u5 O4 D4 C4 c4 P4 B4 hown5 hgrow5 hor5 hne c0
        go_wp2_with fail
        go_roundw)
      all_goals first
        | exact ⟨j - 1, ps ++ [p], some ⟨g5, 0, none⟩, cap5, by rw [List.length_append]; show j - 1 + (ps.length + 1) ≤ 6; omega, by go_num, by rw [List.length_append]; intro e; exact hg5 (by injection e with e), keep (fun p0 h0 => by
            rcases List.mem_append.1 h0 with h1 | h1
            · exact hok.out _ h1
            · rw [List.mem_singleton.1 h1]; exact PO.out), keep (by rw [List.length_append]; exact C6.out), keep (by
            have e := O6.out
            rw [List.map_append, psCells_append, List.length_append]
            exact e), keep (D6.out.mono (by rw [List.length_append]; show _ ≤ 3 + 6 * (ps.length + 1); omega)), P6, B6⟩
        | (simp [intOf]; omega)
    · obtain rfl : j = 0 := by omega
      go_wp2_with fail
      refine (PK.out 9 _ _ hd.out (by omega) (by omega) (by omega)).mono ?_
      rintro e w6 ⟨r1, h1, rfl, hd6, hg6⟩
      have f1 := frun (div4 ((r1 : Int) - 4) (by omega) (by omega))
      have v1 : IntKind.i64.wrap ((r1 : Int) - 4) = (r1 : Int) - 4 := IntWalk.i64_in _ ⟨by omega, by omega⟩
      have c6 := hc.out.byG hg6 (by intro e; injection e with e; omega)
      have k6 := c6.cells
      have u6 := c6.free
      have C6 := keep (c6.written 3 (.float .f32 (wd single 2 ((r1 : Int) - 4))))
      have lC := c6.in_heap
      have zg := hd.out.lt
      have bs := (Below.refl (w.heap.size + 2) w6).setCell (p := ⟨w2.heap.size + 1, 3, none⟩) (by show w.heap.size + 2 ≤ w2.heap.size + 1; omega) (.float .f32 (wd single 2 ((r1 : Int) - 4)))
      have O6 := keep ((own_byG ho.out hg6 (by omega)).kept (gb_row w6 (w2.heap.size + 1) 3 (.float .f32 (wd single 2 ((r1 : Int) - 4)))) (.inr hne))
      have D6 := keep (hd6.later bs (by omega))
      have P6 := keep ((hP.out.byG hg6 (by intro e; injection e with e; omega)).later bs (by omega))
      have B6 := keep ((hbr.out.grown hg6 hbr.out.size (fun g e => by injection e with e; omega)).trans (bs.mono (by omega)))
      clear hd6 hg6 c6 bs hc ho hd hP hbr
      go_wp2_with fail
      clear f1 v1 k6 u6
      refine (PK.out 5 _ _ D6.out (by omega) (by omega) (by omega)).mono ?_
      rintro e w7 ⟨r2, h2, rfl, hd7, hg7⟩
      have f2 := frun (div8 ((r2 : Int) - 2) (by omega) (by omega))
      have v2 : IntKind.i64.wrap ((r2 : Int) - 2) = (r2 : Int) - 2 := IntWalk.i64_in _ ⟨by omega, by omega⟩
      have c7 := C6.out.byG hg7 (by intro e; injection e with e; omega)
      have k7 := c7.cells
      have u7 := c7.free
      have p7 := P6.out.byG hg7 (by intro e; injection e with e; omega)
      have j7 := p7.cells
      have t7 := p7.free
      have bs := (Below.refl (w.heap.size + 2) w7).setCell (p := ⟨w2.heap.size + 1, 4, none⟩) (by show w.heap.size + 2 ≤ w2.heap.size + 1; omega) (.float .f32 (wd single 3 ((r2 : Int) - 2)))
      have O7 := keep ((own_byG O6.out hg7 (by omega)).kept (gb_row w7 (w2.heap.size + 1) 4 (.float .f32 (wd single 3 ((r2 : Int) - 2)))) (.inr hne))
      have B7 := keep ((B6.out.grown hg7 B6.out.size (fun g e => by injection e with e; omega)).trans (bs.mono (by omega)))
      have zP := p7.in_heap
      clear hd7 hg7 bs O6 D6 P6 B6 C6
      go_wp2_with fail
      have q := (((((p7.elsewhere (p := ⟨w2.heap.size + 1, 4, none⟩) (by show w.heap.size ≠ w2.heap.size + 1; omega) (.float .f32 (wd single 3 ((r2 : Int) - 2)))).written 0 (.int .i64 W)).written 1 (.int .i64 H)).written 2 (.slice A ps.length cp)).written 3 (.float .f32 (wd single 2 ((r1 : Int) - 4)))).written 4 (.float .f32 (wd single 3 ((r2 : Int) - 2)))
      have qc := q.cells
      have oo := own_low (o := 4) (own_low (o := 3) (own_low (o := 2) (own_low (o := 1) (own_low (o := 0) O7.out (g := w.heap.size) (by omega) (.int .i64 W)) (g := w.heap.size) (by omega) (.int .i64 H)) (g := w.heap.size) (by omega) (.slice A ps.length cp)) (g := w.heap.size) (by omega) (.float .f32 (wd single 2 ((r1 : Int) - 4)))) (g := w.heap.size) (by omega) (.float .f32 (wd single 3 ((r2 : Int) - 2)))
      exact bodyPost_ret (v := cloudV W H (.slice A ps.length cp) (wd single 2 ((r1 : Int) - 4)) (wd single 3 ((r2 : Int) - 2))) (by simp [results, Try.results7, go_sem, qc]; rfl) rfl ⟨W, H, ps, _, (r1 : Int) - 4, (r2 : Int) - 2, HS.out, by omega, hok.out, by omega, by omega, rfl, own_base oo (by omega), ((((B7.out.setCell (Nat.le_refl _) _).setCell (Nat.le_refl _) _).setCell (Nat.le_refl _) _).setCell (Nat.le_refl _) _).setCell (Nat.le_refl _) _⟩
end Go.Proofs.Ytnmdgbnophclnaa
