/- Contracts: a valid cloud of particles as bits; the cloud of two streams. -/
import Derived.Test.YtnmdgbnophclnaaPh
import Derived.Deep.RegionHeld
namespace Go.Proofs.Ytnmdgbnophclnaa
open Go.RowKit Go.Sort Ieee
set_option linter.unusedSimpArgs false

structure CloudPD (W H : Nat) (ps : List PD) (m b : Nat) : Prop where
  sides : Sides W H
  len : ps.length ≤ 16
  parts : ps.all PD.ok = true
  finm : fin .f32 m = true
  finb : fin .f32 b = true
abbrev RowP (w : World) (B : Nat) (v : Value) (ps : List PD) : Prop := w.ownsRow B 52 4 v ps.length (psCells ps)

set_option maxHeartbeats 4000000 in
set_option maxRecDepth 20000 in
theorem ValidCloudP_ok (W H : Nat) (ps : List PD) (m b : Nat) (h : CloudPD W H ps m b) (B : Nat) (v : Value) (w : World) (hown : RowP w B v ps) :
    Calls Try.prog 46 #[cloudV W H v m b] w fun e w' => e = .returned (.bool true) ∧ Below w.heap.size w w' := by
  have V := keep (fun w => ValidGrid_ok W H h.sides w)
  have AP := keep (fun w (h' : RowP w B v ps) => AreParticles_ok B v ps w h' h.parts (by have := h.len; omega))
  have AF := areFinite_two m b
  rw [h.finm, h.finb] at AF
  have AF := keep AF
  have P := keep (Has.made w 29 #[.int .i64 W, .int .i64 H, v, .float .f32 m, .float .f32 b])
  have B0 := keep ((Below.refl w.heap.size w).alloc (Nat.le_refl _) (.cells #[.int .i64 W, .int .i64 H, v, .float .f32 m, .float .f32 b] 29))
  have HO := keep hown
  obtain ⟨A, c, rfl, _⟩ := own_form hown
  have hl := h.len
  clear hown h
  unfold gridV cloudV at *
  go_enter Try.func46, Try.ntmps46
  go_wp2_with fail
  refine (V.out _).mono ?_
  rintro e w1 ⟨rfl, hb⟩
  have p1 := P.out.after hb
  have cg := p1.cells
  have P1 := keep p1
  have B1 := keep (B0.out.trans (hb.mono B0.out.size))
  have H1 := keep (owns_below HO.out B1.out)
  clear hb P B0 V p1 HO
  go_wp2_with fail
  refine (AP.out _ H1.out).mono ?_
  rintro e w2 ⟨rfl, hb⟩
  have p2 := P1.out.after hb
  clear cg
  have cg := p2.cells
  have B2 := keep (B1.out.trans (hb.mono B1.out.size))
  clear hb P1 B1 AP p2 H1
  go_wp2_with fail
  have a0 := (Has.made w2 27 #[.float .f32 m, .float .f32 b]).cells 0
  have a1 := (Has.made w2 27 #[.float .f32 m, .float .f32 b]).cells 1
  refine (AF.out _ _ _ a0 a1).mono ?_
  rintro e w3 ⟨rfl, n, rfl⟩
  have B3 := keep (Below.drewN_of (B2.out.alloc B2.out.size (.cells #[.float .f32 m, .float .f32 b] 27)) n)
  clear a0 a1 B2 AF cg
  go_wp2_with fail
  go_ret
  exact ⟨rfl, B3.out⟩

set_option maxHeartbeats 4000000 in
set_option maxRecDepth 20000 in
theorem withP_ok (W H : Nat) (v0 : Value) (m b : Nat) (ps : List PD) (h : CloudPD W H ps m b) (hv0 : ∃ A n c, v0 = .slice A n c) (B : Nat) (v : Value) (w : World) (hown : RowP w B v ps) :
    Calls Try.prog 48 #[cloudV W H v0 m b, v] w fun e w' => e = .returned (.tuple #[cloudV W H v m b, .bool true]) ∧ Below w.heap.size w w' := by
  have VC := keep (fun w h' => ValidCloudP_ok W H ps m b h B v w h')
  obtain ⟨A, c, rfl, _⟩ := own_form hown
  obtain ⟨A0, n0, c0, rfl⟩ := hv0
  have PP := (Has.made w 29 #[.int .i64 W, .int .i64 H, .slice A ps.length c, .float .f32 m, .float .f32 b]).beside (.cells cloudZ 29)
  have ZZ := Has.made (w.alloc (.cells #[.int .i64 W, .int .i64 H, .slice A ps.length c, .float .f32 m, .float .f32 b] 29)) 29 cloudZ
  have BB := ((Below.refl w.heap.size w).alloc (Nat.le_refl _) (.cells #[.int .i64 W, .int .i64 H, .slice A ps.length c, .float .f32 m, .float .f32 b] 29)).alloc (by simp only [World.size_alloc]; omega) (.cells cloudZ 29)
  rw [World.size_alloc] at ZZ
  have HW := keep (owns_below hown BB)
  have P := keep PP
  have Z := keep ZZ
  have B0 := keep BB
  clear hown h PP ZZ BB
  unfold cloudV cloudZ at *
  go_enter Try.func48, Try.ntmps48
  go_wp2_with fail
  refine (VC.out _ HW.out).mono ?_
  rintro e w1 ⟨rfl, hb⟩
  have p1 := P.out.after hb
  have z1 := Z.out.after hb
  have cg := p1.cells
  have cz := z1.cells
  have uz := z1.free
  have B1 := keep (B0.out.trans (hb.mono B0.out.size))
  have Z1 := keep z1
  clear hb P B0 Z VC HW p1 z1
  go_wp2_with fail
  have q := ((((Z1.out.written 0 (.int .i64 W)).written 1 (.int .i64 H)).written 2 (.slice A ps.length c)).written 3 (.float .f32 m)).written 4 (.float .f32 b)
  have qc := q.cells
  exact bodyPost_ret (v := .tuple #[.agg #[.int .i64 W, .int .i64 H, .slice A ps.length c, .float .f32 m, .float .f32 b], .bool true]) (by simp [results, Try.results48, go_sem, qc]) rfl ⟨rfl, ((((B1.out.setCell (p := ⟨w.heap.size + 1, 0, none⟩) (by show w.heap.size ≤ w.heap.size + 1; omega) _).setCell (p := ⟨w.heap.size + 1, 1, none⟩) (by show w.heap.size ≤ w.heap.size + 1; omega) _).setCell (p := ⟨w.heap.size + 1, 2, none⟩) (by show w.heap.size ≤ w.heap.size + 1; omega) _).setCell (p := ⟨w.heap.size + 1, 3, none⟩) (by show w.heap.size ≤ w.heap.size + 1; omega) _).setCell (p := ⟨w.heap.size + 1, 4, none⟩) (by show w.heap.size ≤ w.heap.size + 1; omega) _⟩

/-! The two streams' numbers. -/
def tsQ (n k : Nat) : Nat := (floatBits .quo .f32 (floatOfInt .f32 (k : Int)) (floatOfInt .f32 (n : Int))).getD 0
def tsX (W n k : Nat) : Nat := (floatBits .mul .f32 (floatOfInt .f32 (W : Int)) (tsQ n k)).getD 0
def tsY (H : Nat) : Nat := (floatBits .mul .f32 1056964608 (floatOfInt .f32 (H : Int))).getD 0
def tsU (k : Nat) : Nat := if k % 2 = 1 then Op.negFloat .f32 1056964608 else 1056964608
def tsB (n z : Nat) : Nat := (floatBits .quo .f32 (floatOfInt .f32 (n : Int)) (floatOfInt .f32 (z : Int))).getD 0
def tsP (W H n k : Nat) : PD := ⟨tsX W n k, tsY H, tsU k, 0, 3212836864, 1065353216⟩
def tsL (W H n k : Nat) : List PD := (List.range k).map (tsP W H n)
theorem tsL_length (W H n k : Nat) : (tsL W H n k).length = k := by unfold tsL; rw [List.length_map, List.length_range]
theorem tsL_succ (W H n k : Nat) : tsL W H n (k + 1) = tsL W H n k ++ [tsP W H n k] := by unfold tsL; rw [List.range_succ, List.map_append]; rfl
def chkX (W n k : Nat) : Bool := (floatBits .quo .f32 (floatOfInt .f32 (k : Int)) (floatOfInt .f32 (n : Int))).isSome && (floatBits .mul .f32 (floatOfInt .f32 (W : Int)) (tsQ n k)).isSome && fin .f32 (tsX W n k)
def chkY (H : Nat) : Bool := (floatBits .mul .f32 1056964608 (floatOfInt .f32 (H : Int))).isSome && fin .f32 (tsY H)
def chkB (n z : Nat) : Bool := (floatBits .quo .f32 (floatOfInt .f32 (n : Int)) (floatOfInt .f32 (z : Int))).isSome && fin .f32 (tsB n z)
theorem chkX_all : ∀ (W : Fin 4) (c : Fin 8) (k : Fin 16), chkX (W.val + 4) (2 * (c.val + 1)) k.val = true := by decide +kernel
theorem chkY_all : ∀ (H : Fin 4), chkY (H.val + 4) = true := by decide +kernel
theorem chkB_all : ∀ (c : Fin 8) (z : Fin 34), chkB (2 * (c.val + 1)) (z.val + 16) = true := by decide +kernel
theorem some_getD {o : Option Nat} (h : o.isSome = true) : o = some (o.getD 0) := by
  cases o
  · cases h
  · rfl
theorem ts_x (W c k : Nat) (hW : 4 ≤ W ∧ W ≤ 7) (hc : 1 ≤ c ∧ c ≤ 8) (hk : k < 16) : floatBits .quo .f32 (floatOfInt .f32 (k : Int)) (floatOfInt .f32 ((2 * c : Nat) : Int)) = some (tsQ (2 * c) k) ∧ floatBits .mul .f32 (floatOfInt .f32 (W : Int)) (tsQ (2 * c) k) = some (tsX W (2 * c) k) ∧ fin .f32 (tsX W (2 * c) k) = true := by
  have h := chkX_all ⟨W - 4, by omega⟩ ⟨c - 1, by omega⟩ ⟨k, hk⟩
  simp only [show W - 4 + 4 = W by omega, show c - 1 + 1 = c by omega, chkX, Bool.and_eq_true] at h
  exact ⟨some_getD h.1.1, some_getD h.1.2, h.2⟩
theorem ts_y (H : Nat) (hH : 4 ≤ H ∧ H ≤ 7) : floatBits .mul .f32 1056964608 (floatOfInt .f32 (H : Int)) = some (tsY H) ∧ fin .f32 (tsY H) = true := by
  have h := chkY_all ⟨H - 4, by omega⟩
  simp only [show H - 4 + 4 = H by omega, chkY, Bool.and_eq_true] at h
  exact ⟨some_getD h.1, h.2⟩
theorem ts_b (c z : Nat) (hc : 1 ≤ c ∧ c ≤ 8) (hz : 16 ≤ z ∧ z ≤ 49) : floatBits .quo .f32 (floatOfInt .f32 ((2 * c : Nat) : Int)) (floatOfInt .f32 (z : Int)) = some (tsB (2 * c) z) ∧ fin .f32 (tsB (2 * c) z) = true := by
  have h := chkB_all ⟨c - 1, by omega⟩ ⟨z - 16, by omega⟩
  simp only [show z - 16 + 16 = z by omega, show c - 1 + 1 = c by omega, chkB, Bool.and_eq_true] at h
  exact ⟨some_getD h.1, h.2⟩
theorem tsU_fin (k : Nat) : fin .f32 (tsU k) = true := by
  unfold tsU
  split <;> decide +kernel
theorem tsP_ok (W H c k : Nat) (h : Sides W H) (hc : 1 ≤ c ∧ c ≤ 8) (hk : k < 16) : (tsP W H (2 * c) k).ok = true := by
  have hx := (ts_x W c k h.1 hc hk).2.2
  have hy := (ts_y H h.2).2
  have hu := tsU_fin k
  have h3 : fin .f32 3212836864 = true := by decide +kernel
  have h4 : fin .f32 1065353216 = true := by decide +kernel
  have h5 : (FloatKind.f32.format.order 1065353216 0 == some .gt) = true := by decide +kernel
  have h6 : fin .f32 0 = true := by decide +kernel
  unfold PD.ok validP finC tsP
  simp only
  rw [hx, hy, hu, h3, h4, h5, h6]
  rfl
theorem tsL_ok (W H c n : Nat) (h : Sides W H) (hc : 1 ≤ c ∧ c ≤ 8) (hn : n ≤ 16) : (tsL W H (2 * c) n).all PD.ok = true := by
  unfold tsL
  rw [List.all_map]
  refine List.all_eq_true.2 fun k hk => tsP_ok W H c k h hc ?_
  have := List.mem_range.1 hk
  omega

set_option maxHeartbeats 8000000 in
set_option maxRecDepth 20000 in
theorem TwoStreams_ok (W H : Nat) (h : Sides W H) (c : Nat) (hc : 1 ≤ c ∧ c ≤ 8) (w : World) :
    Calls Try.prog 23 #[gridV W H, .int .i64 c, .float .f32 1056964608] w fun e w' => ∃ v', e = .returned (.tuple #[cloudV W H v' 0 (tsB (2 * c) (W * H)), .bool true]) ∧ RowP w' w.heap.size v' (tsL W H (2 * c) (2 * c)) ∧ Below w.heap.size w w' := by
  have V := keep (fun w => ValidGrid_ok W H h w)
  have SZ := keep (fun w => size_ok W H h w)
  have SL := size_le W H h
  have WC := within_any c 1 24
  rw [decide_eq_true (show (1 : Int) ≤ c by omega), decide_eq_true (show (c : Int) ≤ 24 by omega)] at WC
  have WC := keep WC
  obtain ⟨hb1, hb2⟩ := ts_b c (W * H) hc SL
  have WI := keep (fun B' v' w h' => withP_ok W H (.slice none 0 0) 0 (tsB (2 * c) (W * H)) (tsL W H (2 * c) (2 * c)) ⟨h, by rw [tsL_length]; omega, tsL_ok W H c (2 * c) h hc (by omega), by decide +kernel, hb2⟩ ⟨none, 0, 0, rfl⟩ B' v' w h')
  have TX := keep (fun k hk => ts_x W c k h.1 hc hk)
  have TY := keep (ts_y H h.2).1
  have FB := keep (frun hb1)
  have hwm : IntKind.i64.wrap (2 * (c : Int)) = ((2 * c : Nat) : Int) := by
    rw [Int.natCast_mul]
    exact IntWalk.i64_in _ ⟨by omega, by omega⟩
  have hn16 : 2 ≤ 2 * c ∧ 2 * c ≤ 16 := by omega
  have hse : ∃ S : Nat, S = W * H := ⟨_, rfl⟩
  have P := keep ((Has.made w 25 #[.int .i64 W, .int .i64 H]).beside (.cells cloudZ 29))
  have ZZ := Has.made (w.alloc (.cells #[.int .i64 W, .int .i64 H] 25)) 29 cloudZ
  rw [World.size_alloc] at ZZ
  have Z := keep ZZ
  have B0 := keep (((Below.refl w.heap.size w).alloc (Nat.le_refl _) (.cells #[.int .i64 W, .int .i64 H] 25)).alloc (by simp only [World.size_alloc]; omega) (.cells cloudZ 29))
  have LN := tsL_length W H (2 * c) (2 * c)
  obtain ⟨i0, hi0, hz0, hz1, hz2⟩ := info_parts infoParticle
  have HI := keep hi0
  have HZ0 := keep hz0
  have HZ1 := keep hz1
  have HZ2 := keep hz2
  clear hi0 hz0 hz1 hz2 ZZ hse hb1 hb2 h
  generalize W * H = sz at *
  generalize 2 * c = n at *
  generalize tsB n sz = bk at *
  unfold gridV cloudV cloudZ at *
  go_enter Try.func23, Try.ntmps23
  have cg := P.out.cells
  go_wp2_with fail
  refine (V.out _).mono ?_
  rintro e w1 ⟨rfl, hb⟩
  have P1 := keep (P.out.after hb)
  have Z1 := keep (Z.out.after hb)
  have B1 := keep (B0.out.trans (hb.mono B0.out.size))
  have zZ : w.heap.size + 2 ≤ w1.heap.size := (Z.out.after hb).in_heap
  clear hb P Z B0 V cg
  go_wp2_with fail
  refine (WC.out _).mono ?_
  rintro e wz ⟨rfl, hwz⟩
  have hwz := hwz.symm
  subst hwz
  clear WC
  go_wp2_with fail
  clear hwm
  have R1 := keep (show w1.ownsRow (w.heap.size + 2) 52 4 (.slice none 0 0) 0 (psCells (tsL W H n 0)) from World.ownsRow_nil _ _ _ _)
  go_loopw [27, 9] (fun s t wr => ∃ (k : Nat) (D : Option Addr) (d : Nat), k ≤ n ∧ s = .int .i64 k ∧ t = .slice D k d ∧ Kept (wr.ownsRow (w.heap.size + 2) 52 4 (.slice D k d) k (psCells (tsL W H n k))) ∧ Kept (Has wr w.heap.size 25 #[.int .i64 W, .int .i64 H]) ∧ Kept (Has wr (w.heap.size + 1) 29 #[.int .i64 0, .int .i64 0, .slice none 0 0, .float .f32 0, .float .f32 0]) ∧ Kept (Below w.heap.size w wr)) (fun s _ _ => n - (intOf s).toNat)
  case atStart => exact ⟨0, none, 0, Nat.zero_le _, rfl, rfl, R1, P1, Z1, B1⟩
  case round =>
    clear R1 P1 Z1 B1
    obtain ⟨k, D, d, hk, rfl, rfl, hR, hP, hZ, hb⟩ := hrel
    have hsz : w.heap.size + 2 ≤ wr.heap.size := hZ.out.in_heap
    have pc := hP.out.cells
    by_cases hlt : k < n
    · obtain ⟨e1, e2, _⟩ := TX.out k (by omega)
      have f1 := frun e1
      have f2 := frun e2
      have f3 := frun TY.out
      have hpar : k % 2 = 1 ∨ k % 2 = 0 := by omega
      clear e1 e2 TX TY WI SZ FB
      rcases hpar with hpar | hpar
      · have tm : Int.tmod (k : Int) 2 = 1 := by rw [Int.tmod_eq_emod_of_nonneg (by omega)]; omega
        have tu := keep (show tsU k = Op.negFloat .f32 1056964608 from by show (if k % 2 = 1 then _ else _) = _; rw [if_pos (by omega)])
        have fneg := run_negf 1056964608
        clear hpar
        generalize Op.negFloat .f32 1056964608 = ng at *
        go_wp2_with (at_builtin; go_loud (refine wpList_append_own_at _ rfl _ _ 26 rfl (w.heap.size + 2) 52 i0 _ 4 24 Try.underlying26 HI.out HZ0.out HZ1.out HZ2.out rfl (by decide) (.slice D k d) k _ rfl (hR.out.alloc _) ⟨wr.heap.size, 0, none⟩ 1 1 (PD.cells ⟨tsX W n k, tsY H, ng, 0, 3212836864, 1065353216⟩) rfl rfl ?c1 ?c2 ?c3 ?c4 ?c5 ?_))
        case c1 =>
          intro j u hj
          exact four_new (Has.made wr 52 #[.complex .f32 (tsX W n k) (tsY H), .complex .f32 (ng) 0, .float .f32 3212836864, .float .f32 1065353216]) j u hj
        case c2 =>
          intro u hu
          simp only [PD.cells, List.mem_cons, List.not_mem_nil, or_false] at hu
          rcases hu with rfl | rfl | rfl | rfl <;> rfl
        case c3 => unfold maxLen; omega
        case c4 => omega
        case c5 => first | omega | (simp only [World.size_alloc]; omega)
        intro v' w5 hown' hgrow _ _
        obtain ⟨g', cap', rfl, hB', hlt'⟩ := hown'.form (by omega)
        have hL := hR.out.lt
        have bX : Below (w.heap.size + 2) _ w5 := (Below.refl (w.heap.size + 2) _).grown hgrow (by simp only [World.size_alloc]; omega) (fun b e => (hL b e).1)
        have P6 := keep ((hP.out.beside _).later bX (by omega))
        have Z6 := keep ((hZ.out.beside _).later bX (by omega))
        have B6 := keep ((hb.out.alloc (by omega) _).trans (bX.mono (by omega)))
        have OW := keep hown'
        clear hown' hgrow bX hL tm f1 f2 f3 fneg
        go_wp2_with fail
        go_roundw
        case rel => exact ⟨k + 1, _, _, by omega, by go_num, rfl, keep (by
          have e := OW.out
          rw [tsL_succ, psCells_append]
          rw [show tsP W H n k = ⟨tsX W n k, tsY H, ng, 0, 3212836864, 1065353216⟩ by unfold tsP; rw [tu.out]]
          exact e), P6, Z6, B6⟩
        case measure => simp [intOf]; omega
      · have tm : Int.tmod (k : Int) 2 = 0 := by rw [Int.tmod_eq_emod_of_nonneg (by omega)]; omega
        have tu := keep (show tsU k = 1056964608 from by show (if k % 2 = 1 then _ else _) = _; rw [if_neg (by omega)])
        clear hpar
        go_wp2_with (at_builtin; go_loud (refine wpList_append_own_at _ rfl _ _ 26 rfl (w.heap.size + 2) 52 i0 _ 4 24 Try.underlying26 HI.out HZ0.out HZ1.out HZ2.out rfl (by decide) (.slice D k d) k _ rfl (hR.out.alloc _) ⟨wr.heap.size, 0, none⟩ 1 1 (PD.cells ⟨tsX W n k, tsY H, 1056964608, 0, 3212836864, 1065353216⟩) rfl rfl ?c1 ?c2 ?c3 ?c4 ?c5 ?_))
        case c1 =>
          intro j u hj
          exact four_new (Has.made wr 52 #[.complex .f32 (tsX W n k) (tsY H), .complex .f32 (1056964608) 0, .float .f32 3212836864, .float .f32 1065353216]) j u hj
        case c2 =>
          intro u hu
          simp only [PD.cells, List.mem_cons, List.not_mem_nil, or_false] at hu
          rcases hu with rfl | rfl | rfl | rfl <;> rfl
        case c3 => unfold maxLen; omega
        case c4 => omega
        case c5 => first | omega | (simp only [World.size_alloc]; omega)
        intro v' w5 hown' hgrow _ _
        obtain ⟨g', cap', rfl, hB', hlt'⟩ := hown'.form (by omega)
        have hL := hR.out.lt
        have bX : Below (w.heap.size + 2) _ w5 := (Below.refl (w.heap.size + 2) _).grown hgrow (by simp only [World.size_alloc]; omega) (fun b e => (hL b e).1)
        have P6 := keep ((hP.out.beside _).later bX (by omega))
        have Z6 := keep ((hZ.out.beside _).later bX (by omega))
        have B6 := keep ((hb.out.alloc (by omega) _).trans (bX.mono (by omega)))
        have OW := keep hown'
        clear hown' hgrow bX hL tm f1 f2 f3
        go_wp2_with fail
        go_roundw
        case rel => exact ⟨k + 1, _, _, by omega, by go_num, rfl, keep (by
          have e := OW.out
          rw [tsL_succ, psCells_append]
          rw [show tsP W H n k = ⟨tsX W n k, tsY H, 1056964608, 0, 3212836864, 1065353216⟩ by unfold tsP; rw [tu.out]]
          exact e), P6, Z6, B6⟩
        case measure => simp [intOf]; omega
    · obtain rfl : k = n := by omega
      clear pc TX TY hlt HI HZ0 HZ1 HZ2
      have fb := FB.out
      have R2 := keep (show RowP wr (w.heap.size + 2) (.slice D k d) (tsL W H k k) from by unfold RowP; rw [LN]; exact hR.out)
      have lP := hP.out.in_heap
      have lZ := hZ.out.in_heap
      go_wp2_with fail
      have SOF := keep (fun (wz : World) (hg : wr.grownBy wz (some (w.heap.size + 1))) => (⟨(World.cell?_of_block (a := ⟨w.heap.size, 0, none⟩) (hg.block (w.heap.size) lP (fun e => absurd (Option.some.inj e) (by omega)))).trans (hP.out.cells 0), (World.cell?_of_block (a := ⟨w.heap.size, 1, none⟩) (hg.block (w.heap.size) lP (fun e => absurd (Option.some.inj e) (by omega)))).trans (hP.out.cells 1), hg⟩ : wz.cell? ⟨w.heap.size, 0, none⟩ = some (.int .i64 W) ∧ wz.cell? ⟨w.heap.size, 1, none⟩ = some (.int .i64 H) ∧ wr.grownBy wz (some (w.heap.size + 1))))
      have GOS := keep (fun (wz : World) (hS : wz.cell? ⟨w.heap.size, 0, none⟩ = some (.int .i64 W) ∧ wz.cell? ⟨w.heap.size, 1, none⟩ = some (.int .i64 H) ∧ wr.grownBy wz (some (w.heap.size + 1))) => hS.2.2)
      go_region_held (fun wz => wz.cell? ⟨w.heap.size, 0, none⟩ = some (.int .i64 W) ∧ wz.cell? ⟨w.heap.size, 1, none⟩ = some (.int .i64 H) ∧ wr.grownBy wz (some (w.heap.size + 1)))
        (first
          | (with_reducible refine SOF.out _ (gb_store ?_ _ _)
             with_reducible refine gb_store ?_ _ _
             with_reducible refine gb_store ?_ _ _
             with_reducible refine gb_store ?_ _ _
             with_reducible refine gb_store ?_ _ _
             refine GOS.out _ ?_
             with_reducible assumption)
          | (with_reducible exact SOF.out _ (gb_draw1 (World.grownBy.refl _ _)))
          | (exact SOF.out _ (gb_below (GOS.out _ (by assumption)) (by assumption) (GOS.out _ (by assumption)).size)))
        (first
          | ((with_reducible refine (SZ.out _).mono ?_)
             rintro e w3 ⟨rfl, hb3⟩
             have BW := (Below.drew (Below.refl wr.heap.size wr)).trans hb3
             have Z3 := keep (hZ.out.after BW)
             have B3 := keep (hb.out.trans (BW.mono hb.out.size))
             have R3 := keep (owns_below R2.out BW)
             clear BW)
          | ((with_reducible refine (WI.out _ _ _ R3.out).mono ?_)
             rintro e w4 ⟨rfl, hb4⟩
             have Z4 := keep (Z3.out.after hb4)
             have B4 := keep (B3.out.trans (hb4.mono B3.out.size))
             have R4 := keep (owns_below R3.out hb4)
             have cz4 := Z4.out.cells
             have uz4 := Z4.out.free))
      all_goals (
        have qc := setCloud_cells Z4.out W H (.slice D k d) 0 bk
        have R5 := keep (own_base (setCloud_own R4.out (show w.heap.size + 1 < w.heap.size + 2 by omega) W H (.slice D k d) 0 bk) (show w.heap.size ≤ w.heap.size + 2 by omega))
        have B5 := keep (setCloud_below B4.out (show w.heap.size ≤ w.heap.size + 1 by omega) W H (.slice D k d) 0 bk)
        unfold setCloud at R5 B5
        clear cz4 uz4 SOF GOS
        go_wp2_with fail
        exact bodyPost_ret (v := .tuple #[.agg #[.int .i64 W, .int .i64 H, .slice D k d, .float .f32 0, .float .f32 bk], .bool true]) (by simp [results, Try.results23, go_sem, qc]) rfl ⟨.slice D k d, rfl, R5.out, B5.out⟩)
end Go.Proofs.Ytnmdgbnophclnaa
