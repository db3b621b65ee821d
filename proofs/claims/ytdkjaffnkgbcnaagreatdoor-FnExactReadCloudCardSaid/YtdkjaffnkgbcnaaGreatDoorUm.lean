/- Contracts: the particle with a text, by the program and by the reference. -/
import Derived.Test.YtdkjaffnkgbcnaaGreatDoorUl
import Derived.Test.YtdkjaffnkgbcnaaGreatDoorWords
import Derived.Deep.RegionWith
namespace Go.Proofs.YtdkjaffnkgbcnaaGreatDoor
open Go.RowKit Go.Sort
set_option linter.unusedSimpArgs false
set_option linter.unusedVariables false

theorem cutL_len (m : UInt8) (l : List UInt8) : (cutL m l).length ≤ l.length := by
  unfold cutL
  rw [List.length_take]; omega
theorem cutR_len (m : UInt8) (l : List UInt8) : (cutR m l).length ≤ l.length := by
  unfold cutR
  rw [List.length_drop]; omega
theorem two_of {α : Type} {l : List α} (h : l.length = 2) : ∃ a b, l = [a, b] := by
  match l, h with
  | [a, b], _ => exact ⟨a, b, rfl⟩

set_option maxHeartbeats 4000000 in
set_option maxRecDepth 20000 in
theorem ReadParticle_any (l : List UInt8) (w : World) (hmax : l.length ≤ 1100000) (hmx : MX w) (her : ER w) (htz : TZ w) (h0 : 0 < w.heap.size) :
    Calls Tryz.prog 13 #[.string (tx l)] w fun e w' => e = .returned (.tuple (rpOut (readP l))) ∧ Below w.heap.size w w' := by
  rw [readP_cut]
  have CU := keep (fun w => Cut_mk 58 l w hmax)
  have hL := cutL_len 58 l
  have hR := cutR_len 58 l
  have RC := keep (fun w (h1 : MX w) (h2 : ER w) (h3 : TZ w) => ReadComplex_any (cutL 58 l) w (by omega) h1 h2 h3)
  have RN := keep (fun w (h1 : MX w) (h2 : ER w) (h3 : TZ w) => ReadNumbers_any (cutR 58 l) w (by omega) h1 h2 h3)
  have HMX := keep hmx
  have HER := keep her
  have HTZ := keep htz
  have hsz : w.heap.size ≤ w.heap.size + 1 := by omega
  clear hmx her htz hL hR
  generalize cutL 58 l = P at *
  generalize cutR 58 l = O at *
  generalize cutB 58 l = B at *
  go_enter Tryz.func13, Tryz.ntmps13
  go_wp2_with fail
  refine (CU.out _).mono ?_
  rintro e w1 ⟨rfl, m, rfl⟩
  have B1 := keep (show Below w.heap.size w ((w.alloc (.cells #[.complex .f32 0 0, .complex .f32 0 0, .float .f32 0, .float .f32 0] 43)).drewN m) by refine Below.drewN_of ?_ _; go_grown)
  go_wp2_with fail
  refine (RC.out _ (HMX.out.below B1.out (Nat.le_refl _) h0) (HER.out.below B1.out (Nat.le_refl _)) (HTZ.out.below B1.out (Nat.le_refl _))).mono ?_
  rintro e w2 ⟨hg, hb2⟩
  have q2 := ((Has.made w 43 #[.complex .f32 0 0, .complex .f32 0 0, .float .f32 0, .float .f32 0]).draws m).after hb2
  have B2 := keep (B1.out.trans (hb2.mono (by simp)))
  have M2 := keep (HMX.out.below B2.out (Nat.le_refl _) h0)
  have E2 := keep (HER.out.below B2.out (Nat.le_refl _))
  have Z2 := keep (HTZ.out.below B2.out (Nat.le_refl _))
  have Q2 := keep q2
  have hb2z := hb2.size
  clear hb2 q2
  rcases hg with ⟨gn, rfl⟩ | ⟨cs, A, c, gs, rfl, ho⟩
  · have RP := keep (show comb (goodL goodc P) (goodL goodw O) = none by rw [gn, comb_left])
    clear gn
    go_wp2_with fail
    refine (RN.out _ M2.out E2.out Z2.out).mono ?_
    rintro e w3 ⟨hg3, hb3⟩
    have q3 := Q2.out.after hb3
    have B3 := keep (B2.out.trans (hb3.mono B2.out.size))
    have qc := q3.cells
    have qf := q3.free
    have qz := q3.in_heap
    have Q3 := keep q3
    clear hb3 q3
    rcases hg3 with ⟨_, rfl⟩ | ⟨_, _, _, _, rfl, _⟩
    all_goals
      go_wp2_with fail
      refine bodyPost_ret (by simp [results, Tryz.results13, go_sem, qc, qz]; rfl) rfl ⟨by rw [RP.out]; rfl, ?_⟩
      have hz := B3.out.size
      have hb := B3.out
      go_grown
  · have GS := keep gs
    clear gs
    go_wp2_with fail
    refine (RN.out _ M2.out E2.out Z2.out).mono ?_
    rintro e w3 ⟨hg3, hb3⟩
    have q3 := Q2.out.after hb3
    have B3 := keep (B2.out.trans (hb3.mono B2.out.size))
    have HO := keep (owns_below ho hb3)
    have qc := q3.cells
    have qf := q3.free
    have qz := q3.in_heap
    have Q3 := keep q3
    clear hb3 q3 ho
    rcases hg3 with ⟨gn, rfl⟩ | ⟨ns, A2, c2, gs2, rfl, ho2⟩
    · have RP := keep (show comb (goodL goodc P) (goodL goodw O) = none by rw [gn, comb_right])
      clear gn
      go_wp2_with fail
      refine bodyPost_ret (by simp [results, Tryz.results13, go_sem, qc, qz]; rfl) rfl ⟨by rw [RP.out]; rfl, ?_⟩
      have hz := B3.out.size
      have hb := B3.out
      go_grown
    · have GS2 := keep gs2
      have HO2 := keep ho2
      clear gs2 ho2
      by_cases n1 : cs.length = 2
      · by_cases n2 : ns.length = 2
        · obtain ⟨p, r, rfl⟩ := two_of n1
          obtain ⟨x, y, rfl⟩ := two_of n2
          obtain ⟨g1, c1', f1, _, hg1z⟩ := HO.out.form (by simp)
          injection f1 with f1 _ f2
          subst f1
          subst f2
          obtain ⟨g2, c2', f1, _, hg2z⟩ := HO2.out.form (by simp)
          injection f1 with f1 _ f2
          subst f1
          subst f2
          have d1 : w3.cell? ⟨g1, 0, none⟩ = some (.complex .f32 p.1 p.2) := by
            have h := HO.out.cells (g := g1) rfl 0 (.complex .f32 p.1 p.2) rfl
            rwa [Addr.add_lit] at h
          have d2 : w3.cell? ⟨g1, 1, none⟩ = some (.complex .f32 r.1 r.2) := by
            have h := HO.out.cells (g := g1) rfl 1 (.complex .f32 r.1 r.2) rfl
            rwa [Addr.add_lit] at h
          have d3 : w3.cell? ⟨g2, 0, none⟩ = some (.float .f32 x) := by
            have h := HO2.out.cells (g := g2) rfl 0 (.float .f32 x) rfl
            rwa [Addr.add_lit] at h
          have d4 : w3.cell? ⟨g2, 1, none⟩ = some (.float .f32 y) := by
            have h := HO2.out.cells (g := g2) rfl 1 (.float .f32 y) rfl
            rwa [Addr.add_lit] at h
          have RP := keep (show comb (goodL goodc P) (goodL goodw O) = if validP p.1 p.2 r.1 r.2 x y then some (p.1, p.2, r.1, r.2, x, y) else none by rw [GS.out, GS2.out, comb_two])
          obtain ⟨pa, pb⟩ := p
          obtain ⟨ra, rb⟩ := r
          have VP := keep (fun w => ValidParticle_any pa pb ra rb x y w)
          clear n1 n2 GS GS2
          cases hv : validP pa pb ra rb x y
          · rw [hv] at VP RP
            have HV := keep hv
            clear hv
            go_wp2_with fail
            go_region
            clear d1 d2 d3 d4 qc qf qz
            go_wp2_with fail
            refine (VP.out _).mono ?_
            rintro e w5 ⟨rfl, hb5⟩
            have q5 := (show Has (w3.alloc (.cells #[.complex .f32 pa pb, .complex .f32 ra rb, .float .f32 x, .float .f32 y] 43)).drew w.heap.size 43 #[.complex .f32 0 0, .complex .f32 0 0, .float .f32 0, .float .f32 0] from Q3.out.beside _).after hb5
            have p5 := (show Has (w3.alloc (.cells #[.complex .f32 pa pb, .complex .f32 ra rb, .float .f32 x, .float .f32 y] 43)).drew w3.heap.size 43 #[.complex .f32 pa pb, .complex .f32 ra rb, .float .f32 x, .float .f32 y] from Has.made _ _ _).after hb5
            have B5 := keep ((show Below w.heap.size w (w3.alloc (.cells #[.complex .f32 pa pb, .complex .f32 ra rb, .float .f32 x, .float .f32 y] 43)).drew by
              have hz := B3.out.size
              have hb := B3.out
              go_grown).trans (hb5.mono (by have := B3.out.size; show w.heap.size ≤ (w3.alloc _).heap.size; rw [World.size_alloc]; omega)))
            have qc5 := q5.cells
            have qf5 := q5.free
            have qz5 := q5.in_heap
            have pc5 := p5.cells
            have pf5 := p5.free
            have pz5 := p5.in_heap
            clear hb5 q5 p5 Q3
            go_wp2_with fail
            refine bodyPost_ret (by simp [results, Tryz.results13, go_sem, qc5, qz5]; rfl) rfl ⟨by rw [RP.out]; rfl, ?_⟩
            have hz := B5.out.size
            have hb := B5.out
            go_grown
          · rw [hv] at VP RP
            have HV := keep hv
            clear hv
            go_wp2_with fail
            go_region
            clear d1 d2 d3 d4 qc qf qz
            go_wp2_with fail
            refine (VP.out _).mono ?_
            rintro e w5 ⟨rfl, hb5⟩
            have q5 := (show Has (w3.alloc (.cells #[.complex .f32 pa pb, .complex .f32 ra rb, .float .f32 x, .float .f32 y] 43)).drew w.heap.size 43 #[.complex .f32 0 0, .complex .f32 0 0, .float .f32 0, .float .f32 0] from Q3.out.beside _).after hb5
            have p5 := (show Has (w3.alloc (.cells #[.complex .f32 pa pb, .complex .f32 ra rb, .float .f32 x, .float .f32 y] 43)).drew w3.heap.size 43 #[.complex .f32 pa pb, .complex .f32 ra rb, .float .f32 x, .float .f32 y] from Has.made _ _ _).after hb5
            have B5 := keep ((show Below w.heap.size w (w3.alloc (.cells #[.complex .f32 pa pb, .complex .f32 ra rb, .float .f32 x, .float .f32 y] 43)).drew by
              have hz := B3.out.size
              have hb := B3.out
              go_grown).trans (hb5.mono (by have := B3.out.size; show w.heap.size ≤ (w3.alloc _).heap.size; rw [World.size_alloc]; omega)))
            have qc5 := q5.cells
            have qf5 := q5.free
            have qz5 := q5.in_heap
            have pc5 := p5.cells
            have pf5 := p5.free
            have pz5 := p5.in_heap
            clear hb5 q5 p5 Q3
            go_wp2_with fail
            refine bodyPost_ret (by simp [results, Tryz.results13, go_sem, qc5, qz5]; rfl) rfl ⟨by rw [RP.out]; rfl, ?_⟩
            have hz := B5.out.size
            have hb := B5.out
            go_grown
        · have RP := keep (show comb (goodL goodc P) (goodL goodw O) = none by rw [GS2.out, comb_len2 _ _ n2])
          have q2 : ((ns.length : Int) != 2) = true := by rw [bne_iff_ne]; omega
          have q1 : ((cs.length : Int) != 2) = false := by rw [n1]; rfl
          clear n1 n2
          go_wp2_with fail
          refine bodyPost_ret (by simp [results, Tryz.results13, go_sem, qc, qz]; rfl) rfl ⟨by rw [RP.out]; rfl, ?_⟩
          have hz := B3.out.size
          have hb := B3.out
          go_grown
      · have RP := keep (show comb (goodL goodc P) (goodL goodw O) = none by rw [GS.out, comb_len1 _ _ n1])
        have q2 : ((cs.length : Int) != 2) = true := by rw [bne_iff_ne]; omega
        clear n1
        go_wp2_with fail
        refine bodyPost_ret (by simp [results, Tryz.results13, go_sem, qc, qz]; rfl) rfl ⟨by rw [RP.out]; rfl, ?_⟩
        have hz := B3.out.size
        have hb := B3.out
        go_grown

end Go.Proofs.YtdkjaffnkgbcnaaGreatDoor
