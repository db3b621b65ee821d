/- Contract: the cloud with a text, by the program. What the library's variables hold is a premise. -/
import Derived.Test.YtdkjaffnkgbcnaaGreatDoorYg
import Derived.Test.YtdkjaffnkgbcnaaGreatDoorUm
import Derived.Deep.RegionWith
namespace Go.Proofs.YtdkjaffnkgbcnaaGreatDoor
open Go.RowKit Go.Sort
set_option linter.unusedSimpArgs false
set_option linter.unusedVariables false

theorem infoParticle : (Tryz.prog.info? 43).map (fun i => (i.zero, i.size, i.bytes)) = some (some (.agg #[.complex .f32 0 0, .complex .f32 0 0, .float .f32 0, .float .f32 0]), 4, 24) := by kernel_rfl
theorem four_new {w : World} {g : Nat} {t : TypeId} {x0 x1 x2 x3 : Value} (h : Has w g t #[x0, x1, x2, x3]) : ∀ j u, [x0, x1, x2, x3][j]? = some u → w.cell? ((⟨g, 0, none⟩ : Addr).add j) = some u := by
  intro j u hj
  rw [Addr.add_lit, Nat.zero_add, h.cells]
  simpa using hj
theorem Has.grown {w w' : World} {g : Nat} {t : TypeId} {cs : Array Value} {row : Option Nat} (h : Has w g t cs) (hg : w.grownBy w' row) (hne : row ≠ some g) : Has w' g t cs :=
  (hg.block g h.in_heap (fun e => hne e.symm)).trans h

set_option maxHeartbeats 4000000 in
set_option maxRecDepth 20000 in
theorem ReadCloud_else (l : List UInt8) (w : World) (hmax : l.length ≤ 1100000) (hmx : MX w) (h0 : 0 < w.heap.size) (hn : (parts 59 [] l).length ≠ 3) :
    Calls Tryz.prog 5 #[.string (tx l)] w (RC l w) := by
  have SP := keep (fun w (h : MX w) => Split_mk 59 l w hmax h)
  have PL := parts_len 59 l []
  have HMX := keep hmx
  have NO := keep (readC_else hn)
  generalize parts 59 [] l = ps at *
  have hq : ((ps.length : Int) != 3) = true := by rw [bne_iff_ne]; omega
  have Q0 := keep (Has.made w 27 #[.int .i64 0, .int .i64 0, .slice none 0 0, .float .f32 0, .float .f32 0])
  have B1 := keep (show Below w.heap.size w (w.alloc (.cells #[.int .i64 0, .int .i64 0, .slice none 0 0, .float .f32 0, .float .f32 0] 27)) by go_grown)
  clear hmx hn
  go_enter Tryz.func5, Tryz.ntmps5
  go_wp2_with fail
  refine (SP.out _ (HMX.out.below B1.out (Nat.le_refl _) h0)).mono ?_
  rintro e w1 ⟨A, c, rfl, ho, hb1⟩
  have q1 := Q0.out.after hb1
  have B2 := keep (B1.out.trans (hb1.mono (by simp)))
  have qc := q1.cells
  have qf := q1.free
  have qz := q1.in_heap
  clear hb1 q1 ho
  go_wp2_with fail
  refine bodyPost_ret (by simp [results, Tryz.results5, go_sem, qc, qz]; rfl) rfl (RC.no NO.out ?_)
  have hz := B2.out.size
  have hb := B2.out
  go_grown

set_option maxHeartbeats 40000000 in
set_option maxRecDepth 20000 in
theorem ReadCloud_three (l P0 P1 P2 : List UInt8) (w : World) (hmax : l.length ≤ 1100000) (hmx : MX w) (her : ER w) (htz : TZ w) (hpw : P10 w) (h0 : 0 < w.heap.size) (hp : parts 59 [] l = [P0, P1, P2]) :
    Calls Tryz.prog 5 #[.string (tx l)] w (RC l w) := by
  have SP := keep (fun w (h : MX w) => by have h2 := Split_mk 59 l w hmax h; rw [hp] at h2; exact h2)
  have PB : ∀ q ∈ parts 59 [] l, q.length ≤ 1100000 := fun q hq => by
    have h := parts_sum 59 l [] q hq
    simp at h
    omega
  rw [hp] at PB
  have L0 : P0.length ≤ 1100000 := PB P0 (by simp)
  have L1 : P1.length ≤ 1100000 := PB P1 (by simp)
  have L2 : P2.length ≤ 1100000 := PB P2 (by simp)
  have RL := keep (fun w (h1 : MX w) (h2 : ER w) (h3 : P10 w) => ReadList_any P0 w L0 h1 h2 h3)
  have RN := keep (fun w (h1 : MX w) (h2 : ER w) (h3 : TZ w) => ReadNumbers_any P1 w L1 h1 h2 h3)
  have RE := keep (readC_3 hp)
  have HMX := keep hmx
  have HER := keep her
  have HTZ := keep htz
  have HPW := keep hpw
  have Q0 := keep (Has.made w 27 #[.int .i64 0, .int .i64 0, .slice none 0 0, .float .f32 0, .float .f32 0])
  have B1 := keep (show Below w.heap.size w (w.alloc (.cells #[.int .i64 0, .int .i64 0, .slice none 0 0, .float .f32 0, .float .f32 0] 27)) by go_grown)
  clear hmx her htz hpw hp PB
  go_enter Tryz.func5, Tryz.ntmps5
  go_wp2_with fail
  refine (SP.out _ (HMX.out.below B1.out (Nat.le_refl _) h0)).mono ?_
  rintro e w1 ⟨PA, pc0, rfl, ho, hb1⟩
  have Q1 := keep (Q0.out.after hb1)
  have B2 := keep (B1.out.trans (hb1.mono (by simp)))
  obtain ⟨g0, c0, f1, _, _⟩ := ho.form (by simp)
  injection f1 with f1 _ f2
  subst f1
  subst f2
  have s0 : w1.cell? ⟨g0, 0, none⟩ = some (.string (tx P0)) := by
    have h := ho.cells (g := g0) rfl 0 (.string (tx P0)) rfl
    rwa [Addr.add_lit] at h
  have OS := keep ho
  clear ho hb1 SP
  go_wp2_with fail
  refine (RL.out _ (HMX.out.below B2.out (Nat.le_refl _) h0) (HER.out.below B2.out (Nat.le_refl _)) (HPW.out.below B2.out (Nat.le_refl _))).mono ?_
  rintro e w2 ⟨hg, hb2⟩
  have Q2 := keep (Q1.out.after hb2)
  have B3 := keep (B2.out.trans (hb2.mono B2.out.size))
  have OS2 := keep (owns_below OS.out hb2)
  have s1 : w2.cell? ⟨g0, 1, none⟩ = some (.string (tx P1)) := by
    have h := OS2.out.cells (g := g0) rfl 1 (.string (tx P1)) rfl
    rwa [Addr.add_lit] at h
  clear hb2 s0 RL
  rcases hg with ⟨gn, rfl⟩ | ⟨cs, A, c, gs, rfl, ho⟩
  · have NO := keep (show readC l = none by rw [RE.out, gn, mixC_1])
    clear gn
    go_wp2_with fail
    refine (RN.out _ (HMX.out.below B3.out (Nat.le_refl _) h0) (HER.out.below B3.out (Nat.le_refl _)) (HTZ.out.below B3.out (Nat.le_refl _))).mono ?_
    rintro e w3 ⟨hg3, hb3⟩
    have q3 := Q2.out.after hb3
    have B4 := keep (B3.out.trans (hb3.mono B3.out.size))
    have qc := q3.cells
    have qf := q3.free
    have qz := q3.in_heap
    clear hb3 q3 s1
    rcases hg3 with ⟨_, rfl⟩ | ⟨_, _, _, _, rfl, _⟩
    all_goals
      go_wp2_with fail
      refine bodyPost_ret (by simp [results, Tryz.results5, go_sem, qc, qz]; rfl) rfl (RC.no NO.out ?_)
      have hz := B4.out.size
      have hb := B4.out
      go_grown
  · have GS := keep gs
    clear gs
    go_wp2_with fail
    refine (RN.out _ (HMX.out.below B3.out (Nat.le_refl _) h0) (HER.out.below B3.out (Nat.le_refl _)) (HTZ.out.below B3.out (Nat.le_refl _))).mono ?_
    rintro e w3 ⟨hg3, hb3⟩
    have q3 := Q2.out.after hb3
    have B4 := keep (B3.out.trans (hb3.mono B3.out.size))
    have HO := keep (owns_below ho hb3)
    have OS3 := keep (owns_below OS2.out hb3)
    have qc := q3.cells
    have qf := q3.free
    have qz := q3.in_heap
    have Q3 := keep q3
    clear hb3 q3 ho s1
    rcases hg3 with ⟨gn, rfl⟩ | ⟨ns, A2, c2, gs2, rfl, ho2⟩
    · have NO := keep (show readC l = none by rw [RE.out, gn, mixC_2])
      clear gn
      go_wp2_with fail
      refine bodyPost_ret (by simp [results, Tryz.results5, go_sem, qc, qz]; rfl) rfl (RC.no NO.out ?_)
      have hz := B4.out.size
      have hb := B4.out
      go_grown
    · have GS2 := keep gs2
      have HO2 := keep ho2
      clear gs2 ho2
      by_cases n1 : cs.length = 2
      case neg =>
        have NO := keep (show readC l = none by rw [RE.out, GS.out, mixC_l1 _ _ _ n1])
        have q2 : ((cs.length : Int) != 2) = true := by rw [bne_iff_ne]; omega
        clear n1
        go_wp2_with fail
        refine bodyPost_ret (by simp [results, Tryz.results5, go_sem, qc, qz]; rfl) rfl (RC.no NO.out ?_)
        have hz := B4.out.size
        have hb := B4.out
        go_grown
      case pos =>
        by_cases n2 : ns.length = 2
        case neg =>
          have NO := keep (show readC l = none by rw [RE.out, GS2.out, mixC_l2 _ _ _ n2])
          have q2 : ((ns.length : Int) != 2) = true := by rw [bne_iff_ne]; omega
          have q1 : ((cs.length : Int) != 2) = false := by rw [n1]; rfl
          clear n1 n2
          go_wp2_with fail
          refine bodyPost_ret (by simp [results, Tryz.results5, go_sem, qc, qz]; rfl) rfl (RC.no NO.out ?_)
          have hz := B4.out.size
          have hb := B4.out
          go_grown
        case pos =>
          obtain ⟨x, y, rfl⟩ := two_of n1
          obtain ⟨m, k, rfl⟩ := two_of n2
          obtain ⟨g1, c1', f1, _, hg1z⟩ := HO.out.form (by simp)
          injection f1 with f1 _ f2
          subst f1
          subst f2
          obtain ⟨g2, c2', f1, _, hg2z⟩ := HO2.out.form (by simp)
          injection f1 with f1 _ f2
          subst f1
          subst f2
          have d1 : w3.cell? ⟨g1, 0, none⟩ = some (.int .i64 x) := by
            have h := HO.out.cells (g := g1) rfl 0 (.int .i64 x) rfl
            rwa [Addr.add_lit] at h
          have d2 : w3.cell? ⟨g1, 1, none⟩ = some (.int .i64 y) := by
            have h := HO.out.cells (g := g1) rfl 1 (.int .i64 y) rfl
            rwa [Addr.add_lit] at h
          have d3 : w3.cell? ⟨g2, 0, none⟩ = some (.float .f32 m) := by
            have h := HO2.out.cells (g := g2) rfl 0 (.float .f32 m) rfl
            rwa [Addr.add_lit] at h
          have d4 : w3.cell? ⟨g2, 1, none⟩ = some (.float .f32 k) := by
            have h := HO2.out.cells (g := g2) rfl 1 (.float .f32 k) rfl
            rwa [Addr.add_lit] at h
          have RCE := keep (show readC l = mixC (some [x, y]) (some [m, k]) (partsP P2) by rw [RE.out, GS.out, GS2.out])
          have k2 : (tx P2).toList = P2 := by rw [Lib.toList_data, tx_bytes]
          clear n1 n2 GS GS2
          go_wp2_with fail
          go_region
          clear d1 d2 d3 d4 qc qf qz
          have BL : w.heap.size < w3.heap.size + 1 := by have := B4.out.size; omega
          have WL := Q3.out.in_heap
          have Q4 := keep (show Has (w3.alloc (.cells #[.int .i64 x, .int .i64 y, .slice none 0 0, .float .f32 m, .float .f32 k] 27)).drew w3.heap.size 27 #[.int .i64 x, .int .i64 y, .slice none 0 0, .float .f32 m, .float .f32 k] from Has.made w3 27 #[.int .i64 x, .int .i64 y, .slice none 0 0, .float .f32 m, .float .f32 k])
          have R4 := keep (show Has (w3.alloc (.cells #[.int .i64 x, .int .i64 y, .slice none 0 0, .float .f32 m, .float .f32 k] 27)).drew w.heap.size 27 #[.int .i64 0, .int .i64 0, .slice none 0 0, .float .f32 0, .float .f32 0] from Q3.out.beside _)
          have OS4 := keep (show (w3.alloc (.cells #[.int .i64 x, .int .i64 y, .slice none 0 0, .float .f32 m, .float .f32 k] 27)).drew.ownsRow (w.alloc (.cells #[.int .i64 0, .int .i64 0, .slice none 0 0, .float .f32 0, .float .f32 0] 27)).heap.size 9 1 _ _ _ from OS3.out.alloc (.cells #[.int .i64 x, .int .i64 y, .slice none 0 0, .float .f32 m, .float .f32 k] 27))
          have B5 := keep (show Below w.heap.size w (w3.alloc (.cells #[.int .i64 x, .int .i64 y, .slice none 0 0, .float .f32 m, .float .f32 k] 27)).drew by
            have hz := B4.out.size
            have hb := B4.out
            go_grown)
          have S4 : (w3.alloc (.cells #[.int .i64 x, .int .i64 y, .slice none 0 0, .float .f32 m, .float .f32 k] 27)).drew.heap.size = w3.heap.size + 1 := World.size_alloc ..
          generalize (w3.alloc (.cells #[.int .i64 x, .int .i64 y, .slice none 0 0, .float .f32 m, .float .f32 k] 27)).drew = w4 at *
          clear HO HO2 OS3 Q3
          generalize w3.heap.size = b at *
          have s2 : w4.cell? ⟨g0, 2, none⟩ = some (.string (tx P2)) := by
            have h := OS4.out.cells (g := g0) rfl 2 (.string (tx P2)) rfl
            rwa [Addr.add_lit] at h
          by_cases hnone : P2 = [110, 111, 110, 101]
          case pos =>
            have hq : (P2 == [110, 111, 110, 101]) = true := by rw [hnone]; rfl
            have PSE := keep (show partsP P2 = some [] by unfold partsP; rw [if_pos hnone])
            have RCE2 := keep (show readC l = mixC (some [x, y]) (some [m, k]) (some []) by rw [RCE.out, PSE.out])
            clear RCE hnone PSE
            have RCE := RCE2
            clear RCE2
            have V := ValidCloud_ok (b + 1) (.slice none 0 0) ([] : List PD) x y m k w4 (World.ownsRow_nil w4 (b + 1) 43 4) rfl
            unfold cloudV at V
            have kc := Q4.out.cells
            have kf := Q4.out.free
            cases hok : okCloud x y 0 m k
            · have V1 := keep (show Calls Tryz.prog 14 #[.agg #[.int .i64 x, .int .i64 y, .slice none 0 0, .float .f32 m, .float .f32 k]] w4 fun e w' => e = .returned (.bool false) ∧ Below w4.heap.size w4 w' by
                have V := V
                first
                  | (rw [hok] at V; exact V)
                  | (have hok2 : okCloud x y ([] : List PD).length m k = false := hok; rw [hok2] at V; exact V))
              have NO := keep (show readC l = none by rw [RCE.out, mixC_all, show okCloud x y ([] : List PD).length m k = _ from hok]; rfl)
              clear V hok
              go_wp2_with fail
              refine V1.out.mono ?_
              rintro e w9 ⟨rfl, hb9⟩
              have q9 := R4.out.after hb9
              have B9 := keep (B5.out.trans (hb9.mono B5.out.size))
              have qc := q9.cells
              have qf := q9.free
              have qz := q9.in_heap
              clear hb9 q9 kc kf
              go_wp2_with fail
              refine bodyPost_ret (by simp [results, Tryz.results5, go_sem, qc, qz]; rfl) rfl (RC.no NO.out ?_)
              have hz := B9.out.size
              have hb := B9.out
              go_grown
            · have V1 := keep (show Calls Tryz.prog 14 #[.agg #[.int .i64 x, .int .i64 y, .slice none 0 0, .float .f32 m, .float .f32 k]] w4 fun e w' => e = .returned (.bool true) ∧ Below w4.heap.size w4 w' by
                have V := V
                first
                  | (rw [hok] at V; exact V)
                  | (have hok2 : okCloud x y ([] : List PD).length m k = true := hok; rw [hok2] at V; exact V))
              have YES := keep (show readC l = some (x, y, m, k, ([] : List PD)) by rw [RCE.out, mixC_all, show okCloud x y ([] : List PD).length m k = _ from hok]; rfl)
              clear V hok
              go_wp2_with fail
              refine V1.out.mono ?_
              rintro e w9 ⟨rfl, hb9⟩
              have q9 := R4.out.after hb9
              have k9 := Q4.out.after hb9
              have B9 := keep (B5.out.trans (hb9.mono B5.out.size))
              have O9 := keep (owns_below (World.ownsRow_nil w4 (b + 1) 43 4) hb9)
              have Q9 := keep q9
              have qc := q9.cells
              have qf := q9.free
              have qz := q9.in_heap
              have pc := k9.cells
              have pf := k9.free
              have pz := k9.in_heap
              clear hb9 q9 k9 kc kf
              go_wp2_with fail
              refine bodyPost_ret (by simp [results, Tryz.results5, go_sem, qc, qz]; rfl) rfl (RC.yes YES.out (own_base ?_ (Nat.le_of_lt BL)) ?_)
              · exact ownsRow_setCell_below (a := ⟨w.heap.size, 4, none⟩) (ownsRow_setCell_below (a := ⟨w.heap.size, 3, none⟩) (ownsRow_setCell_below (a := ⟨w.heap.size, 2, none⟩) (ownsRow_setCell_below (a := ⟨w.heap.size, 1, none⟩) (ownsRow_setCell_below (a := ⟨w.heap.size, 0, none⟩) O9.out BL _) BL _) BL _) BL _) BL _
              · have hz := B9.out.size
                have hb := B9.out
                go_grown
          case neg =>
            have hq : (P2 == [110, 111, 110, 101]) = false := by rw [beq_eq_false_iff_ne]; exact hnone
            have PSE := keep (show partsP P2 = allOf readPD (parts 47 [] P2) by unfold partsP; rw [if_neg hnone])
            have SP2 := keep (Split_mk 47 P2 w4 L2 (HMX.out.below B5.out (Nat.le_refl _) h0))
            have PS := parts_ne 47 [] P2
            have PS2 := keep (show ∀ q ∈ parts 47 [] P2, q.length ≤ 1100000 from fun q hq => by
              have h := parts_sum 47 P2 [] q hq
              simp at h
              omega)
            have PLN := parts_len 47 P2 []
            clear hnone
            generalize parts 47 [] P2 = ps at *
            go_wp2_with fail
            refine SP2.out.mono ?_
            rintro e w5 ⟨PA, pc, rfl, ho, hb5⟩
            have Q5 := keep (Q4.out.after hb5)
            have R5 := keep (R4.out.after hb5)
            have B6 := keep (B5.out.trans (hb5.mono B5.out.size))
            have OP5 := keep (own_base ho (B' := b + 1) (by omega))
            obtain ⟨g, pc2, e1, _, _⟩ := ho.form (by have : ps.length ≠ 0 := fun e => PS (List.eq_nil_of_length_eq_zero e); omega)
            injection e1 with e1 e2 e3
            subst e1
            subst e3
            have OW5 := keep (World.ownsRow_nil w5 (b + 1) 43 4)
            clear hb5 ho SP2 e2 s2 Q4 R4 B5 OS4 OS OS2 Q1 Q2 B2 B3 B4 RN
            have B5 := B6
            clear B6
            go_wp2_with fail
            go_loopw [74] (fun t wr => ∃ (dn : List PD) (i : Nat) (A : Option Addr) (c : Nat), t = .int .i64 i ∧ i ≤ ps.length ∧ dn.length = i ∧ Kept (allOf readPD ps = (allOf readPD (ps.drop i)).map (dn ++ ·)) ∧ Kept (Has wr b 27 #[.int .i64 x, .int .i64 y, .slice A dn.length c, .float .f32 m, .float .f32 k]) ∧ Kept (Has wr w.heap.size 27 #[.int .i64 0, .int .i64 0, .slice none 0 0, .float .f32 0, .float .f32 0]) ∧ Kept (wr.ownsRow (b + 1) 43 4 (.slice A dn.length c) dn.length (psCells dn)) ∧ Kept (dn.all PD.ok = true) ∧ Kept (wr.ownsRow (b + 1) 9 1 (.slice (some ⟨g, 0, none⟩) ps.length pc) ps.length (sv (ps.map tx))) ∧ Kept (Below w.heap.size w wr)) (fun t _ => ps.length - (intOf t).toNat)
            case atStart => exact ⟨[], 0, _, _, rfl, by omega, rfl, keep (by cases h : allOf readPD ps <;> simp [h]), Q5, R5, OW5, keep rfl, OP5, B5⟩
            case round =>
              clear Q5 R5 OW5 OP5 B5
              obtain ⟨dn, i, A, c, rfl, hi, hdl, hR, hQ, hRz, ho, hall, hp, hb⟩ := hrel
              have hb0 := hb.out.size
              by_cases hlt : i < ps.length
              · have hltI : (i : Int) < (ps.length : Int) := by omega
                have hcell : wr.cell? ⟨g, i, none⟩ = some (.string (tx ps[i])) := by
                  have h := hp.out.cells (g := g) rfl i (.string (tx ps[i])) (by
                    unfold sv
                    rw [List.map_map, List.getElem?_map, List.getElem?_eq_getElem hlt]; rfl)
                  rwa [Addr.add_lit, Nat.zero_add] at h
                have hdr : ps.drop i = ps[i] :: ps.drop (i + 1) := List.drop_eq_getElem_cons hlt
                have R2 := keep (show allOf readPD ps = (allOf readPD (ps[i] :: ps.drop (i + 1))).map (dn ++ ·) by rw [← hdr]; exact hR.out)
                have RPw := keep (ReadParticle_any ps[i] wr (PS2.out _ (List.getElem_mem hlt)) (HMX.out.below hb.out (Nat.le_refl _) h0) (HER.out.below hb.out (Nat.le_refl _)) (HTZ.out.below hb.out (Nat.le_refl _)) (by omega))
                clear hdr hR
                generalize ps[i] = pp at *
                cases hg : readPD pp with
                | none =>
                  have RP2 := RPw.out
                  rw [readPD_none hg] at RP2
                  have RP3 := keep RP2
                  have NO := keep (show readC l = none by rw [RCE.out, PSE.out, R2.out, allOf_none hg]; exact mixC_3 _ _)
                  clear RP2 RPw R2 hg hdl
                  go_wp2_with fail
                  refine RP3.out.mono ?_
                  rintro e w6 ⟨rfl, hb6⟩
                  have q6 := hRz.out.after hb6
                  have B6 := keep (hb.out.trans (hb6.mono hb0))
                  have Q6 := keep q6
                  clear hb6 q6 hcell
                  have q7 := Q6.out.beside (.cells #[.complex .f32 0 0, .complex .f32 0 0, .float .f32 0, .float .f32 0] 43)
                  have B7 := keep (B6.out.alloc B6.out.size (.cells #[.complex .f32 0 0, .complex .f32 0 0, .float .f32 0, .float .f32 0] 43))
                  have qc := q7.cells
                  have qf := q7.free
                  have qz := q7.in_heap
                  go_wp2_with fail
                  refine bodyPost_ret (by simp [results, Tryz.results5, go_sem, qc, qz]; rfl) rfl (RC.no NO.out ?_)
                  have hz := B7.out.size
                  have hb := B7.out
                  go_grown
                | some p =>
                  have RP2 := RPw.out
                  rw [(readPD_some hg).1] at RP2
                  have RP3 := keep RP2
                  have POK := keep (readPD_some hg).2
                  have R3 := keep (show allOf readPD ps = (allOf readPD (ps.drop (i + 1))).map ((dn ++ [p]) ++ ·) by
                    rw [R2.out, allOf_some hg, Option.map_map]
                    congr 1
                    funext q
                    simp)
                  clear RP2 RPw R2 hg
                  have hdn : dn.length ≤ 1100001 := by omega
                  have HD := keep hdl
                  clear hdl
                  obtain ⟨i0, hi, hz0, hz1, hz2⟩ := info_parts infoParticle
                  have HI := keep hi
                  have HZ0 := keep hz0
                  have HZ1 := keep hz1
                  have HZ2 := keep hz2
                  clear hi hz0 hz1 hz2
                  go_wp2_with fail
                  refine RP3.out.mono ?_
                  rintro e w6 ⟨rfl, hb6⟩
                  have B6 := keep (hb.out.trans (hb6.mono hb0))
                  have b6z := B6.out.size
                  have H5 := keep (hQ.out.after hb6)
                  have H2 := keep (hRz.out.after hb6)
                  have O6 := keep (owns_below ho.out hb6)
                  have P6 := keep (owns_below hp.out hb6)
                  have c5 := H5.out.cells
                  have f5 := H5.out.free
                  have z5 := H5.out.in_heap
                  clear hb6 hcell ho hp hQ hRz hb
                  go_wp2_with (at_builtin; go_loud (refine wpList_append_own_at _ rfl _ _ 24 rfl (b + 1) 43 i0 _ 4 24 Tryz.underlying24 HI.out HZ0.out HZ1.out HZ2.out rfl (by decide) (.slice A dn.length c) dn.length _ rfl ((O6.out.alloc _).alloc _) ⟨w6.heap.size + 1, 0, none⟩ 1 1 p.cells rfl rfl ?c1 ?c2 ?c3 ?c4 ?c5 ?_))
                  case c1 =>
                    have r := Has.made (w6.alloc (.cells #[.complex .f32 p.a p.b, .complex .f32 p.c p.d, .float .f32 p.q, .float .f32 p.m] 43)) 43 #[.complex .f32 p.a p.b, .complex .f32 p.c p.d, .float .f32 p.q, .float .f32 p.m]
                    rw [World.size_alloc] at r
                    intro j u hj
                    exact four_new r j u hj
                  case c2 =>
                    intro u hu
                    simp only [PD.cells, List.mem_cons, List.not_mem_nil, or_false] at hu
                    rcases hu with rfl | rfl | rfl | rfl <;> rfl
                  case c3 => unfold maxLen; omega
                  case c4 => omega
                  case c5 => first | omega | (simp only [World.size_alloc]; omega)
                  intro v' w7 hown' hgrow _ _
                  obtain ⟨g', cap', rfl, hB', hlt'⟩ := hown'.form (by omega)
                  have hL := O6.out.lt
                  have hne : ∀ d, d ≤ b → (Value.slice A dn.length c).ownBlock ≠ some d := fun d hb1 e => by have := hL d e; omega
                  have p5 := Has.grown ((H5.out.beside (.cells #[.complex .f32 p.a p.b, .complex .f32 p.c p.d, .float .f32 p.q, .float .f32 p.m] 43)).beside (.cells #[.complex .f32 p.a p.b, .complex .f32 p.c p.d, .float .f32 p.q, .float .f32 p.m] 43)) hgrow (hne b (Nat.le_refl _))
                  have P2 := keep (Has.grown ((H2.out.beside (.cells #[.complex .f32 p.a p.b, .complex .f32 p.c p.d, .float .f32 p.q, .float .f32 p.m] 43)).beside (.cells #[.complex .f32 p.a p.b, .complex .f32 p.c p.d, .float .f32 p.q, .float .f32 p.m] 43)) hgrow (hne _ (Nat.le_of_lt_succ BL)))
                  have B7 := keep (((B6.out.alloc b6z (.cells #[.complex .f32 p.a p.b, .complex .f32 p.c p.d, .float .f32 p.q, .float .f32 p.m] 43)).alloc (by rw [World.size_alloc]; omega) (.cells #[.complex .f32 p.a p.b, .complex .f32 p.c p.d, .float .f32 p.q, .float .f32 p.m] 43)).grown hgrow (by simp; omega) (fun d e => by have := hL d e; omega))
                  have HP := keep (((P6.out.alloc (.cells #[.complex .f32 p.a p.b, .complex .f32 p.c p.d, .float .f32 p.q, .float .f32 p.m] 43)).alloc (.cells #[.complex .f32 p.a p.b, .complex .f32 p.c p.d, .float .f32 p.q, .float .f32 p.m] 43)).kept hgrow (kinds_ne P6.out O6.out (by decide)))
                  have cc5 := p5.cells
                  have ff5 := p5.free
                  have P5 := keep p5
                  have OW := keep hown'
                  clear hown' hgrow p5 hL hne c5 f5 z5
                  go_wp2_with fail
                  go_roundw
                  case rel =>
                    exact ⟨dn ++ [p], i + 1, _, _, by go_num, by omega, by rw [List.length_append, HD.out]; rfl, R3, keep (by rw [List.length_append]; exact P5.out.written 2 _), keep (P2.out.elsewhere (by have := BL; show w.heap.size ≠ b; omega) _), keep (by
                      have e := ownsRow_setCell_below (a := ⟨b, 2, none⟩) OW.out (by show b < b + 1; omega) (.slice (some ⟨g', 0, none⟩) (dn.length + 1) cap')
                      rw [List.length_append, psCells_app]
                      exact e), keep (by rw [List.all_append, hall.out]; simp [POK.out]), keep (ownsRow_setCell_below (a := ⟨b, 2, none⟩) HP.out (by show b < b + 1; omega) _), keep (B7.out.setCell (Nat.le_of_lt_succ BL) _)⟩
                  case measure => simp [intOf]; omega
              · have hlt2 : ¬ (i : Int) < (ps.length : Int) := by omega
                have R3 := keep (show allOf readPD ps = some dn by
                  have h := hR.out
                  rw [List.drop_eq_nil_of_le (by omega)] at h
                  rw [h]; simp [allOf])
                have RCE2 := keep (show readC l = mixC (some [x, y]) (some [m, k]) (some dn) by rw [RCE.out, PSE.out, R3.out])
                clear R3 hR RCE hdl hi hlt
                have RCE := RCE2
                clear RCE2
                have V := ValidCloud_ok (b + 1) (.slice A dn.length c) dn x y m k wr ho.out hall.out
                unfold cloudV at V
                have kc := hQ.out.cells
                have kf := hQ.out.free
                cases hok : okCloud x y dn.length m k
                · have V1 := keep (show Calls Tryz.prog 14 #[.agg #[.int .i64 x, .int .i64 y, .slice A dn.length c, .float .f32 m, .float .f32 k]] wr fun e w' => e = .returned (.bool false) ∧ Below wr.heap.size wr w' by
                    have V := V
                    first
                      | (rw [hok] at V; exact V)
                      | (have hok2 : okCloud x y dn.length m k = false := hok; rw [hok2] at V; exact V))
                  have NO := keep (show readC l = none by rw [RCE.out, mixC_all, show okCloud x y dn.length m k = _ from hok]; rfl)
                  clear V hok
                  go_wp2_with fail
                  refine V1.out.mono ?_
                  rintro e w9 ⟨rfl, hb9⟩
                  have q9 := hRz.out.after hb9
                  have B9 := keep (hb.out.trans (hb9.mono hb.out.size))
                  have qc := q9.cells
                  have qf := q9.free
                  have qz := q9.in_heap
                  clear hb9 q9 kc kf
                  go_wp2_with fail
                  refine bodyPost_ret (by simp [results, Tryz.results5, go_sem, qc, qz]; rfl) rfl (RC.no NO.out ?_)
                  have hz := B9.out.size
                  have hb := B9.out
                  go_grown
                · have V1 := keep (show Calls Tryz.prog 14 #[.agg #[.int .i64 x, .int .i64 y, .slice A dn.length c, .float .f32 m, .float .f32 k]] wr fun e w' => e = .returned (.bool true) ∧ Below wr.heap.size wr w' by
                    have V := V
                    first
                      | (rw [hok] at V; exact V)
                      | (have hok2 : okCloud x y dn.length m k = true := hok; rw [hok2] at V; exact V))
                  have YES := keep (show readC l = some (x, y, m, k, dn) by rw [RCE.out, mixC_all, show okCloud x y dn.length m k = _ from hok]; rfl)
                  clear V hok
                  go_wp2_with fail
                  refine V1.out.mono ?_
                  rintro e w9 ⟨rfl, hb9⟩
                  have q9 := hRz.out.after hb9
                  have k9 := hQ.out.after hb9
                  have B9 := keep (hb.out.trans (hb9.mono hb.out.size))
                  have O9 := keep (owns_below ho.out hb9)
                  have Q9 := keep q9
                  have qc := q9.cells
                  have qf := q9.free
                  have qz := q9.in_heap
                  have pc := k9.cells
                  have pf := k9.free
                  have pz := k9.in_heap
                  clear hb9 q9 k9 kc kf
                  go_wp2_with fail
                  refine bodyPost_ret (by simp [results, Tryz.results5, go_sem, qc, qz]; rfl) rfl (RC.yes YES.out (own_base ?_ (Nat.le_of_lt BL)) ?_)
                  · exact ownsRow_setCell_below (a := ⟨w.heap.size, 4, none⟩) (ownsRow_setCell_below (a := ⟨w.heap.size, 3, none⟩) (ownsRow_setCell_below (a := ⟨w.heap.size, 2, none⟩) (ownsRow_setCell_below (a := ⟨w.heap.size, 1, none⟩) (ownsRow_setCell_below (a := ⟨w.heap.size, 0, none⟩) O9.out BL _) BL _) BL _) BL _) BL _
                  · have hz := B9.out.size
                    have hb := B9.out
                    go_grown

theorem ReadCloud_any (l : List UInt8) (w : World) (hmax : l.length ≤ 1100000) (hmx : MX w) (her : ER w) (htz : TZ w) (hpw : P10 w) (h0 : 0 < w.heap.size) :
    Calls Tryz.prog 5 #[.string (tx l)] w (RC l w) := by
  by_cases n : (parts 59 [] l).length = 3
  · obtain ⟨P0, P1, P2, hp⟩ := three_of n
    exact ReadCloud_three l P0 P1 P2 w hmax hmx her htz hpw h0 hp
  · exact ReadCloud_else l w hmax hmx h0 n
end Go.Proofs.YtdkjaffnkgbcnaaGreatDoor
