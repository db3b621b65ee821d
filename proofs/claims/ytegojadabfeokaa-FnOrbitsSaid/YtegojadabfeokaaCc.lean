/- Contract: the places of an orbit, by the steps of the plain text. No condition but that the steps run. -/
import Derived.Test.YtegojadabfeokaaBd
import Derived.Test.YtegojadabfeokaaCb
import Derived.Test.YtegojadabfeokaaHb
import Derived.Deep.RegionLaw
namespace Go.Proofs.Ytegojadabfeokaa
open Go.RowKit Go.Sort Ieee
set_option linter.unusedSimpArgs false
set_option linter.unusedVariables false

theorem bown_base {w : World} {B B' e size n : Nat} {v : Value} {xs : List Value} (h : w.ownsRow B e size v n xs) (hB : B' ≤ B) : w.ownsRow B' e size v n xs := by
  refine ⟨h.1, ?_⟩
  rcases h.2 with h1 | ⟨g, cap, cur, h1, h2, h3⟩
  · exact .inl h1
  · exact .inr ⟨g, cap, cur, h1, Nat.le_trans hB h2, h3⟩
theorem infoC64 : (Try.prog.info? 24).map (fun i => (i.zero, i.size, i.bytes)) = some (some (.complex .f32 0 0), 1, 8) := by kernel_rfl
theorem bhas_one (w : World) (v : Value) (t : TypeId) : Has (w.alloc (.cells #[v] t)) w.heap.size t #[v] := Has.made w t #[v]
def cList (A B : Nat → Nat) (k : Nat) : List Value := (List.range k).map fun i => .complex .f32 (A (i + 1)) (B (i + 1))
theorem cList_len (A B : Nat → Nat) (k : Nat) : (cList A B k).length = k := by unfold cList; simp
theorem cList_succ (A B : Nat → Nat) (k : Nat) : cList A B (k + 1) = cList A B k ++ [.complex .f32 (A (k + 1)) (B (k + 1))] := by
  unfold cList; rw [List.range_succ, List.map_append]; rfl
theorem cList_at (A B : Nat → Nat) (k i : Nat) (h : i < k) : (cList A B k)[i]? = some (.complex .f32 (A (i + 1)) (B (i + 1))) := by
  unfold cList; simp [h]
theorem isSteps6 (w : World) : Calls Try.prog 47 #[.int .i64 6] w fun e w' => e = .returned (.bool true) ∧ w' = w := by
  have WI : ∀ w, Calls Try.prog 63 #[.int .i64 6, .int .i64 0, .int .i64 64] w fun e w' => e = .returned (.bool true) ∧ w' = w := by
    intro w
    go_enter Try.func63, Try.ntmps63
    go_wp2_with fail
    go_ret
    exact ⟨rfl, rfl⟩
  have WI := keep WI
  go_enter Try.func47, Try.ntmps47
  go_wp2_with fail
  refine (WI.out _).mono ?_
  rintro e w' ⟨rfl, rfl⟩
  go_wp2_with fail
  go_ret
  exact ⟨rfl, rfl⟩

set_option maxHeartbeats 4000000 in
set_option maxRecDepth 20000 in
theorem OrbitOf_ok (A B U W : Nat → Nat) {q m mag tick : Nat} (P : PNm (A 0) (B 0) (U 0) (W 0) q m) (nmag : Nm single mag) (ntick : Nm single tick) (S : ∀ k, k < 6 → OStep q m mag tick (A k) (B k) (U k) (W k) (A (k + 1)) (B (k + 1)) (U (k + 1)) (W (k + 1))) (w : World) :
    Calls Try.prog 19 #[pAgg (A 0) (B 0) (U 0) (W 0) q m, .complex .f32 0 0, .float .f32 mag, .float .f32 tick, .int .i64 6] w fun e w' => ∃ g c, e = .returned (.tuple #[.slice (some ⟨g, 0, none⟩) 6 c, .bool true]) ∧ w'.ownsRow w.heap.size 24 1 (.slice (some ⟨g, 0, none⟩) 6 c) 6 (cList A B 6) ∧ Below w.heap.size w w' := by
  have VA := keep (fun w => P.valid w)
  have AF := keep (fun b w h => bAreFinite mag tick nmag ntick b w h)
  have IC := keep (fun w => bIsC 0 0 nm_zero.1 nm_zero.1 w)
  have ST := keep (fun w => isSteps6 w)
  have B0 := keep ((Below.refl w.heap.size w).alloc (Nat.le_refl _) (.cells #[.complex .f32 (A 0) (B 0), .complex .f32 (U 0) (W 0), .float .f32 q, .float .f32 m] 27))
  have H0 := keep (Has.made w 27 #[.complex .f32 (A 0) (B 0), .complex .f32 (U 0) (W 0), .float .f32 q, .float .f32 m])
  have P0 := (Has.made w 27 #[.complex .f32 (A 0) (B 0), .complex .f32 (U 0) (W 0), .float .f32 q, .float .f32 m]).cells
  have HS := keep S
  unfold pAgg at *
  clear P nmag ntick S
  go_enter Try.func19, Try.ntmps19
  go_wp2_with fail
  refine (VA.out _).mono ?_
  rintro e w1 ⟨rfl, hb⟩
  have H1 := keep (H0.out.after hb)
  have B1 := keep (B0.out.trans (hb.mono B0.out.size))
  clear hb H0 B0 P0 VA
  go_wp2_with fail
  refine (toBN (IC.out _)).mono ?_
  rintro e w2 ⟨rfl, hb⟩
  have H2 := keep (H1.out.after hb)
  have B2 := keep (B1.out.trans (hb.mono B1.out.size))
  clear hb H1 B1 IC
  go_wp2_with fail
  refine (toBN (AF.out _ _ (Has.made _ _ _))).mono ?_
  rintro e w3 ⟨rfl, hb⟩
  have H3 := keep ((H2.out.beside (.cells #[.float .f32 mag, .float .f32 tick] 25)).after hb)
  have B3 := keep ((B2.out.alloc B2.out.size (.cells #[.float .f32 mag, .float .f32 tick] 25)).trans (hb.mono (B2.out.alloc B2.out.size (.cells #[.float .f32 mag, .float .f32 tick] 25)).size))
  clear hb H2 B2 AF
  go_wp2_with fail
  refine (ST.out _).mono ?_
  rintro e w' ⟨rfl, hw⟩
  have hw := hw.symm
  subst hw
  clear ST
  go_wp2_with fail
  go_loopw [34, 12] (fun t s wr => ∃ (k : Nat) (R : Option Addr) (cp : Nat), k ≤ 6 ∧ t = .int .i64 k ∧ s = .slice R k cp ∧ Kept (Has wr w.heap.size 27 #[.complex .f32 (A k) (B k), .complex .f32 (U k) (W k), .float .f32 q, .float .f32 m]) ∧ Kept (wr.ownsRow (w.heap.size + 1) 24 1 (.slice R k cp) k (cList A B k)) ∧ Kept (Below w.heap.size w wr)) (fun t _ _ => 6 - (intOf t).toNat)
  case atStart => exact ⟨0, none, 0, by omega, rfl, rfl, H3, keep ⟨by simp [cList], .inl ⟨rfl, rfl⟩⟩, B3⟩
  case round =>
    clear H3 B3
    obtain ⟨k, R, cp, hk, rfl, rfl, H, O, BL⟩ := hrel
    by_cases hlt : k < 6
    · have hi : (k : Int) < 6 := by omega
      have T := keep (HS.out k hlt)
      have hc := H.out.cells
      obtain ⟨su, sv, q1, q2, q3, q4⟩ := T.out.s
      have PU := keep (fun w => bpush (A k) (B k) T.out.p w)
      have SC := keep (fun w => zScale (U (k + 1)) (W (k + 1)) tick su sv q1 q2 w)
      have PL := keep (fun w => bplus (A k) (B k) su sv (A (k + 1)) (B (k + 1)) q3 q4 w)
      have IU := keep (fun w => bIsC _ _ T.out.nu T.out.nv w)
      have IA := keep (fun w => bIsC _ _ T.out.na T.out.nb w)
      unfold pAgg at *
      clear q1 q2 q3 q4 T
      have LI := keep (cList_succ A B k)
      generalize eL : cList A B k = L0 at *
      generalize ea : A (k + 1) = a' at *
      generalize eb : B (k + 1) = b' at *
      generalize eu : U (k + 1) = u' at *
      generalize ev : W (k + 1) = v' at *
      have EA := keep ea
      have EB := keep eb
      have EU := keep eu
      have EV := keep ev
      clear ea eb eu ev eL
      generalize A k = a at *
      generalize B k = b at *
      generalize U k = u at *
      generalize W k = v at *
      clear HS
      go_wp2_with fail
      refine (PU.out _).mono ?_
      rintro e w5 ⟨rfl, hb⟩
      have H5 := keep (H.out.after hb)
      have O5 := keep (owns_below O.out hb)
      have B5 := keep (BL.out.trans (hb.mono BL.out.size))
      have hc5 := H5.out.cells
      have hu5 := H5.out.free
      have hl5 := H5.out.in_heap
      have hc6 := (H5.out.written 1 (.complex .f32 u' v')).cells
      have H6 : Kept (Has (w5.setCell ⟨w.heap.size, 1, none⟩ (.complex .f32 u' v')) w.heap.size 27 #[.complex .f32 a b, .complex .f32 u' v', .float .f32 q, .float .f32 m]) := keep (H5.out.written 1 (.complex .f32 u' v'))
      have O6 := keep (ownsRow_setCell_below (a := ⟨w.heap.size, 1, none⟩) O5.out (by show w.heap.size < w.heap.size + 1; omega) (.complex .f32 u' v'))
      have B6 := keep (B5.out.setCell (p := ⟨w.heap.size, 1, none⟩) (Nat.le_refl _) (.complex .f32 u' v'))
      clear hb H O BL PU hc hc6
      go_wp2_with fail
      clear H5 O5 B5 hc5 hu5 hl5
      generalize w5.setCell ⟨w.heap.size, 1, none⟩ (.complex .f32 u' v') = w6 at *
      have hc := H6.out.cells
      have hu := H6.out.free
      have hl := H6.out.in_heap
      go_region_law (first
        | (go_simp
           go_at_call 49
           refine (SC.out _).mono ?_
           rintro e w7 ⟨rfl, hw⟩
           have hw := hw.symm
           subst hw)
        | (go_simp
           go_at_call 48
           refine (PL.out _).mono ?_
           rintro e w7 ⟨rfl, hw⟩
           have hw := hw.symm
           subst hw))
      all_goals (
        have H7 : Kept (Has (w6.setCell ⟨w.heap.size, 0, none⟩ (.complex .f32 a' b')).drew w.heap.size 27 #[.complex .f32 a' b', .complex .f32 u' v', .float .f32 q, .float .f32 m]) := keep ((H6.out.written 0 (.complex .f32 a' b')).draws 1)
        have O7 := keep (owns_below (ownsRow_setCell_below (a := ⟨w.heap.size, 0, none⟩) O6.out (by show w.heap.size < w.heap.size + 1; omega) (.complex .f32 a' b')) (Below.drew (Below.refl _ _)))
        have B7 := keep (Below.drew (B6.out.setCell (p := ⟨w.heap.size, 0, none⟩) (Nat.le_refl _) (.complex .f32 a' b')))
        have hx : w.heap.size < (w6.setCell ⟨w.heap.size, 0, none⟩ (.complex .f32 a' b')).drew.heap.size := H7.out.in_heap
        clear H6 O6 B6 hc hu hl SC PL
        generalize (w6.setCell ⟨w.heap.size, 0, none⟩ (.complex .f32 a' b')).drew = w7 at *
        have hc := H7.out.cells
        go_wp2_with fail
        refine (toBN (IU.out _)).mono ?_
        rintro e w8 ⟨rfl, hb⟩
        have H8 := keep (H7.out.after hb)
        have O8 := keep (owns_below O7.out hb)
        have B8 := keep (B7.out.trans (hb.mono B7.out.size))
        clear hb H7 O7 B7 hc hx
        have hc := H8.out.cells
        go_wp2_with fail
        refine (toBN (IA.out _)).mono ?_
        rintro e w9 ⟨rfl, hb⟩
        have H9 := keep (H8.out.after hb)
        have O9 := keep (owns_below O8.out hb)
        have B9 := keep (B8.out.trans (hb.mono B8.out.size))
        have lx : w.heap.size < w9.heap.size := (H8.out.after hb).in_heap
        clear hb H8 O8 B8 hc IU IA
        have hc := H9.out.cells
        obtain ⟨i0, hi0, hz0, hz1, hz2⟩ := info_parts infoC64
        have HI := keep hi0
        have HZ0 := keep hz0
        have HZ1 := keep hz1
        have HZ2 := keep hz2
        clear hi0 hz0 hz1 hz2
        go_wp2_with (at_builtin; go_loud (refine wpList_append_own_at _ rfl _ _ 43 rfl (w.heap.size + 1) 24 i0 _ 1 8 Try.underlying43 HI.out HZ0.out HZ1.out HZ2.out rfl (by decide) (.slice R k cp) k _ rfl (O9.out.alloc _) ⟨w9.heap.size, 0, none⟩ 1 1 [.complex .f32 a' b'] rfl rfl ?c1 ?c2 ?c3 ?c4 ?c5 ?_))
        case c1 =>
          intro i u hi
          rw [Addr.add_lit, Nat.zero_add]
          have e := (bhas_one w9 (.complex .f32 a' b') 24).cells i
          rw [e]
          simpa using hi
        case c2 =>
          intro u hu
          rw [List.mem_singleton.1 hu]; rfl
        case c3 => unfold maxLen; omega
        case c4 => omega
        case c5 => first | omega | (simp only [World.size_alloc]; omega)
        intro v5 w10 hown' hgrow _ _
        obtain ⟨g', cap', rfl, hB', hlt'⟩ := hown'.form (by omega)
        have hL := O9.out.lt
        have bX : Below (w.heap.size + 1) _ w10 := (Below.refl (w.heap.size + 1) _).grown hgrow (by simp only [World.size_alloc]; omega) (fun b e => (hL b e).1)
        have H10 := keep ((H9.out.beside _).later bX (by omega))
        have B10 := keep ((B9.out.alloc (by omega) _).trans (bX.mono (by omega)))
        have OW := keep hown'
        clear hown' hgrow bX hL hc
        go_wp2_with fail
        go_roundw)
      all_goals first
        | (simp [intOf]; omega)
        | exact ⟨k + 1, some ⟨g', 0, none⟩, cap', by omega, by go_num, rfl, keep (by rw [EA.out, EB.out, EU.out, EV.out]; exact H10.out), keep (by
            rw [LI.out]
            exact OW.out), B10⟩
    · obtain rfl : k = 6 := by omega
      go_wp2_with fail
      obtain ⟨g, rfl⟩ : ∃ g, R = some ⟨g, 0, none⟩ := by
        rcases O.out.2 with ⟨_, hn⟩ | ⟨g, cap, cur, e, _⟩
        · omega
        · injection e with e1; exact ⟨g, e1⟩
      have O9 := keep (bown_base O.out (show w.heap.size ≤ w.heap.size + 1 by omega))
      go_ret2
      exact ⟨g, cp, rfl, O9.out, BL.out⟩
end Go.Proofs.Ytegojadabfeokaa
