/- Contract: the particle with a text, by the reference. -/
import Derived.Test.YtdkjaffnkgbcnaaGreatDoorUm
namespace Go.Proofs.YtdkjaffnkgbcnaaGreatDoor
open Go.RowKit Go.Sort
set_option linter.unusedSimpArgs false
set_option linter.unusedVariables false

set_option maxHeartbeats 4000000 in
set_option maxRecDepth 20000 in
theorem l11Read_else (l : List UInt8) (w : World) (hmax : l.length ≤ 1100000) (n : (parts 58 [] l).length ≠ 2) :
    Calls Tryz.prog 24 #[.string (tx l)] w fun e w' => e = .returned (.tuple (rpOut (readP l))) ∧ Below w.heap.size w w' := by
  have TS := tx_size l
  have CU := keep (fun w => l01Cut_mk 58 (tx l) w (by omega))
  rw [tx_bytes] at CU
  have RP := keep (readP_else n)
  have n2 : (((parts 58 [] l).length : Int) != 2) = true := by rw [bne_iff_ne]; omega
  clear TS n
  go_enter Tryz.func24, Tryz.ntmps24
  go_wp2_with fail
  refine (CU.out _).mono ?_
  rintro e w2 ⟨A, c, rfl, ho, hb2⟩
  have q2 := (Has.made w 43 #[.complex .f32 0 0, .complex .f32 0 0, .float .f32 0, .float .f32 0]).after hb2
  have B2 := keep ((show Below w.heap.size w (w.alloc (.cells #[.complex .f32 0 0, .complex .f32 0 0, .float .f32 0, .float .f32 0] 43)) by go_grown).trans (hb2.mono (by simp)))
  have qc := q2.cells
  have qf := q2.free
  have qz := q2.in_heap
  clear hb2 q2 ho
  go_wp2_with fail
  refine bodyPost_ret (by simp [results, Tryz.results24, go_sem, qc, qz]; rfl) rfl ⟨by rw [RP.out]; rfl, ?_⟩
  have hz := B2.out.size
  have hb := B2.out
  go_grown

set_option maxHeartbeats 4000000 in
set_option maxRecDepth 20000 in
theorem l11Read_two (l P O : List UInt8) (w : World) (hmax : l.length ≤ 1100000) (hp : parts 58 [] l = [P, O]) :
    Calls Tryz.prog 24 #[.string (tx l)] w fun e w' => e = .returned (.tuple (rpOut (readP l))) ∧ Below w.heap.size w w' := by
  rw [readP_two hp]
  have TS := tx_size l
  have hP := parts_sum 58 l [] P (by rw [hp]; simp)
  have hO := parts_sum 58 l [] O (by rw [hp]; simp)
  have hP2 : P.length ≤ 1100000 := by simp at hP; omega
  have hO2 : O.length ≤ 1100000 := by simp at hO; omega
  have CU := keep (fun w => l01Cut_mk 58 (tx l) w (by omega))
  rw [tx_bytes, hp] at CU
  have RC := keep (fun w => l01CRead_any P w hP2)
  have RN := keep (fun w => l01NRead_any O w hO2)
  clear TS hP hO hP2 hO2 hp
  go_enter Tryz.func24, Tryz.ntmps24
  go_wp2_with fail
  refine (CU.out _).mono ?_
  rintro e w1 ⟨A0, c0, rfl, ho, hb1⟩
  have q1 := (Has.made w 43 #[.complex .f32 0 0, .complex .f32 0 0, .float .f32 0, .float .f32 0]).after hb1
  have B1 := keep ((show Below w.heap.size w (w.alloc (.cells #[.complex .f32 0 0, .complex .f32 0 0, .float .f32 0, .float .f32 0] 43)) by go_grown).trans (hb1.mono (by simp)))
  obtain ⟨g0, c0', f1, _, hg0z⟩ := ho.form (by simp)
  injection f1 with f1 _ f2
  subst f1
  subst f2
  have s0 : w1.cell? ⟨g0, 0, none⟩ = some (.string (tx P)) := by
    have h := ho.cells (g := g0) rfl 0 (.string (tx P)) rfl
    rwa [Addr.add_lit] at h
  have OS := keep ho
  have Q1 := keep q1
  clear ho hb1 q1
  go_wp2_with fail
  refine (RC.out _).mono ?_
  rintro e w2 ⟨hg, hb2⟩
  have q2 := Q1.out.after hb2
  have B2 := keep (B1.out.trans (hb2.mono B1.out.size))
  have OS2 := keep (owns_below OS.out hb2)
  have s1 : w2.cell? ⟨g0, 1, none⟩ = some (.string (tx O)) := by
    have h := OS2.out.cells (g := g0) rfl 1 (.string (tx O)) rfl
    rwa [Addr.add_lit] at h
  have Q2 := keep q2
  clear hb2 q2 s0
  rcases hg with ⟨gn, rfl⟩ | ⟨cs, A, c, gs, rfl, ho⟩
  · have RP := keep (show comb (goodL goodc P) (goodL goodw O) = none by rw [gn, comb_left])
    clear gn
    go_wp2_with fail
    refine (RN.out _).mono ?_
    rintro e w3 ⟨hg3, hb3⟩
    have q3 := Q2.out.after hb3
    have B3 := keep (B2.out.trans (hb3.mono B2.out.size))
    have qc := q3.cells
    have qf := q3.free
    have qz := q3.in_heap
    have Q3 := keep q3
    clear hb3 q3
    rcases hg3 with ⟨_, rfl⟩ | ⟨_, _, _, _, rfl, _⟩
    all_goals
      go_wp2_with fail
      refine bodyPost_ret (by simp [results, Tryz.results24, go_sem, qc, qz]; rfl) rfl ⟨by rw [RP.out]; rfl, ?_⟩
      have hz := B3.out.size
      have hb := B3.out
      go_grown
  · have GS := keep gs
    clear gs
    go_wp2_with fail
    refine (RN.out _).mono ?_
    rintro e w3 ⟨hg3, hb3⟩
    have q3 := Q2.out.after hb3
    have B3 := keep (B2.out.trans (hb3.mono B2.out.size))
    have HO := keep (owns_below ho hb3)
    have qc := q3.cells
    have qf := q3.free
    have qz := q3.in_heap
    have Q3 := keep q3
    clear hb3 q3 ho
    rcases hg3 with ⟨gn, rfl⟩ | ⟨ns, A2, c2, gs2, rfl, ho2⟩
    · have RP := keep (show comb (goodL goodc P) (goodL goodw O) = none by rw [gn, comb_right])
      clear gn
      go_wp2_with fail
      refine bodyPost_ret (by simp [results, Tryz.results24, go_sem, qc, qz]; rfl) rfl ⟨by rw [RP.out]; rfl, ?_⟩
      have hz := B3.out.size
      have hb := B3.out
      go_grown
    · have GS2 := keep gs2
      have HO2 := keep ho2
      clear gs2 ho2
      by_cases n1 : cs.length = 2
      · by_cases n2 : ns.length = 2
        · obtain ⟨p, r, rfl⟩ := two_of n1
          obtain ⟨x, y, rfl⟩ := two_of n2
          obtain ⟨g1, c1', f1, _, hg1z⟩ := HO.out.form (by simp)
          injection f1 with f1 _ f2
          subst f1
          subst f2
          obtain ⟨g2, c2', f1, _, hg2z⟩ := HO2.out.form (by simp)
          injection f1 with f1 _ f2
          subst f1
          subst f2
          have d1 : w3.cell? ⟨g1, 0, none⟩ = some (.complex .f32 p.1 p.2) := by
            have h := HO.out.cells (g := g1) rfl 0 (.complex .f32 p.1 p.2) rfl
            rwa [Addr.add_lit] at h
          have d2 : w3.cell? ⟨g1, 1, none⟩ = some (.complex .f32 r.1 r.2) := by
            have h := HO.out.cells (g := g1) rfl 1 (.complex .f32 r.1 r.2) rfl
            rwa [Addr.add_lit] at h
          have d3 : w3.cell? ⟨g2, 0, none⟩ = some (.float .f32 x) := by
            have h := HO2.out.cells (g := g2) rfl 0 (.float .f32 x) rfl
            rwa [Addr.add_lit] at h
          have d4 : w3.cell? ⟨g2, 1, none⟩ = some (.float .f32 y) := by
            have h := HO2.out.cells (g := g2) rfl 1 (.float .f32 y) rfl
            rwa [Addr.add_lit] at h
          have RP := keep (show comb (goodL goodc P) (goodL goodw O) = if validP p.1 p.2 r.1 r.2 x y then some (p.1, p.2, r.1, r.2, x, y) else none by rw [GS.out, GS2.out, comb_two])
          obtain ⟨pa, pb⟩ := p
          obtain ⟨ra, rb⟩ := r
          have VP := keep (fun bl w c0 c1 c2 c3 => l02Particle_any pa pb ra rb x y bl w c0 c1 c2 c3)
          clear n1 n2 GS GS2
          cases hv : validP pa pb ra rb x y
          · rw [hv] at VP RP
            have HV := keep hv
            clear hv
            go_wp2_with fail
            go_region
            clear d1 d2 d3 d4 qc qf qz
            go_wp2_with fail
            refine (VP.out _ _ (by go_simp) (by go_simp) (by go_simp) (by go_simp)).mono ?_
            rintro e w5 ⟨rfl, m5, hw5⟩
            have hb5 : Below (w3.alloc (.cells #[.complex .f32 pa pb, .complex .f32 ra rb, .float .f32 x, .float .f32 y] 43)).drew.heap.size (w3.alloc (.cells #[.complex .f32 pa pb, .complex .f32 ra rb, .float .f32 x, .float .f32 y] 43)).drew w5 := by rw [hw5]; exact Below.drewN_of (Below.refl _ _) _
            clear hw5
            have q5 := (show Has (w3.alloc (.cells #[.complex .f32 pa pb, .complex .f32 ra rb, .float .f32 x, .float .f32 y] 43)).drew w.heap.size 43 #[.complex .f32 0 0, .complex .f32 0 0, .float .f32 0, .float .f32 0] from Q3.out.beside _).after hb5
            have p5 := (show Has (w3.alloc (.cells #[.complex .f32 pa pb, .complex .f32 ra rb, .float .f32 x, .float .f32 y] 43)).drew w3.heap.size 43 #[.complex .f32 pa pb, .complex .f32 ra rb, .float .f32 x, .float .f32 y] from Has.made _ _ _).after hb5
            have B5 := keep ((show Below w.heap.size w (w3.alloc (.cells #[.complex .f32 pa pb, .complex .f32 ra rb, .float .f32 x, .float .f32 y] 43)).drew by
              have hz := B3.out.size
              have hb := B3.out
              go_grown).trans (hb5.mono (by have := B3.out.size; show w.heap.size ≤ (w3.alloc _).heap.size; rw [World.size_alloc]; omega)))
            have qc5 := q5.cells
            have qf5 := q5.free
            have qz5 := q5.in_heap
            have pc5 := p5.cells
            have pf5 := p5.free
            have pz5 := p5.in_heap
            clear hb5 q5 p5 Q3
            go_wp2_with fail
            refine bodyPost_ret (by simp [results, Tryz.results24, go_sem, qc5, qz5]; rfl) rfl ⟨by rw [RP.out]; rfl, ?_⟩
            have hz := B5.out.size
            have hb := B5.out
            go_grown
          · rw [hv] at VP RP
            have HV := keep hv
            clear hv
            go_wp2_with fail
            go_region
            clear d1 d2 d3 d4 qc qf qz
            go_wp2_with fail
            refine (VP.out _ _ (by go_simp) (by go_simp) (by go_simp) (by go_simp)).mono ?_
            rintro e w5 ⟨rfl, m5, hw5⟩
            have hb5 : Below (w3.alloc (.cells #[.complex .f32 pa pb, .complex .f32 ra rb, .float .f32 x, .float .f32 y] 43)).drew.heap.size (w3.alloc (.cells #[.complex .f32 pa pb, .complex .f32 ra rb, .float .f32 x, .float .f32 y] 43)).drew w5 := by rw [hw5]; exact Below.drewN_of (Below.refl _ _) _
            clear hw5
            have q5 := (show Has (w3.alloc (.cells #[.complex .f32 pa pb, .complex .f32 ra rb, .float .f32 x, .float .f32 y] 43)).drew w.heap.size 43 #[.complex .f32 0 0, .complex .f32 0 0, .float .f32 0, .float .f32 0] from Q3.out.beside _).after hb5
            have p5 := (show Has (w3.alloc (.cells #[.complex .f32 pa pb, .complex .f32 ra rb, .float .f32 x, .float .f32 y] 43)).drew w3.heap.size 43 #[.complex .f32 pa pb, .complex .f32 ra rb, .float .f32 x, .float .f32 y] from Has.made _ _ _).after hb5
            have B5 := keep ((show Below w.heap.size w (w3.alloc (.cells #[.complex .f32 pa pb, .complex .f32 ra rb, .float .f32 x, .float .f32 y] 43)).drew by
              have hz := B3.out.size
              have hb := B3.out
              go_grown).trans (hb5.mono (by have := B3.out.size; show w.heap.size ≤ (w3.alloc _).heap.size; rw [World.size_alloc]; omega)))
            have qc5 := q5.cells
            have qf5 := q5.free
            have qz5 := q5.in_heap
            have pc5 := p5.cells
            have pf5 := p5.free
            have pz5 := p5.in_heap
            clear hb5 q5 p5 Q3
            go_wp2_with fail
            refine bodyPost_ret (by simp [results, Tryz.results24, go_sem, qc5, qz5]; rfl) rfl ⟨by rw [RP.out]; rfl, ?_⟩
            have hz := B5.out.size
            have hb := B5.out
            go_grown
        · have RP := keep (show comb (goodL goodc P) (goodL goodw O) = none by rw [GS2.out, comb_len2 _ _ n2])
          have q2 : ((ns.length : Int) != 2) = true := by rw [bne_iff_ne]; omega
          have q1 : ((cs.length : Int) != 2) = false := by rw [n1]; rfl
          clear n1 n2
          go_wp2_with fail
          refine bodyPost_ret (by simp [results, Tryz.results24, go_sem, qc, qz]; rfl) rfl ⟨by rw [RP.out]; rfl, ?_⟩
          have hz := B3.out.size
          have hb := B3.out
          go_grown
      · have RP := keep (show comb (goodL goodc P) (goodL goodw O) = none by rw [GS.out, comb_len1 _ _ n1])
        have q2 : ((cs.length : Int) != 2) = true := by rw [bne_iff_ne]; omega
        clear n1
        go_wp2_with fail
        refine bodyPost_ret (by simp [results, Tryz.results24, go_sem, qc, qz]; rfl) rfl ⟨by rw [RP.out]; rfl, ?_⟩
        have hz := B3.out.size
        have hb := B3.out
        go_grown

end Go.Proofs.YtdkjaffnkgbcnaaGreatDoor
