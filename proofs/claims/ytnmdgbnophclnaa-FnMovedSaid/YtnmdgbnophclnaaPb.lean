/- Contracts: the field of the charges of particles in quarters; the charge of a cloud. -/
import Derived.Test.YtnmdgbnophclnaaPa
import Derived.Test.YtnmdgbnophclnaaKg
import Derived.Test.YtnmdgbnophclnaaOd
namespace Go.Proofs.Ytnmdgbnophclnaa
open Go.RowKit Go.Sort Ieee
set_option linter.unusedSimpArgs false

/-- The same numbers under other units. -/
def QP.g (p : QP) : GP := ⟨p.x, p.y, p.u, p.v, p.q, p.m⟩
theorem QP.gok {p : QP} (h : p.ok) : p.g.ok := by
  obtain ⟨⟨a, b⟩, ⟨c, d⟩, e, f, g, i, j⟩ := h
  exact ⟨⟨a, by show p.x ≤ 63; omega⟩, ⟨c, by show p.y ≤ 63; omega⟩, e, f, g, i, by show p.m ≤ 8; omega⟩
theorem QP.all_gok {ps : List QP} (h : ∀ p ∈ ps, p.ok) : ∀ p ∈ ps.map QP.g, p.ok := fun q hq => by
  obtain ⟨p, hp, rfl⟩ := List.mem_map.1 hq
  exact QP.gok (h p hp)
def depQ (W H : Nat) (ps : List QP) : List Int := depAll W H (ps.map QP.g)
theorem depQ_length (W H : Nat) (ps : List QP) : (depQ W H ps).length = W * H := depAll_length W H _
theorem depQ_take (W H : Nat) (ps : List QP) (i : Nat) (h : i < ps.length) : depQ W H (ps.take (i + 1)) = depF ps[i].q (cornersL W H ps[i].x ps[i].y) (depQ W H (ps.take i)) := by
  have e := depAll_take W H (ps.map QP.g) i (by rw [List.length_map]; exact h)
  rw [← List.map_take, ← List.map_take] at e
  unfold depQ
  rw [e, List.getElem_map]
  rfl
theorem depQ_small (W H : Nat) (ps : List QP) (hok : ∀ p ∈ ps, p.ok) : Small (depQ W H ps) (1024 * ps.length) := by
  have e := depAll_small W H (ps.map QP.g) (QP.all_gok hok)
  rw [List.length_map] at e
  exact e
theorem AregQ_ok (B : Nat) (v : Value) (ps : List QP) (w : World) (h : w.ownsRow B 52 4 v ps.length (psQ ps)) (hok : ∀ p ∈ ps, p.ok) (hN : ps.length ≤ 6) :
    Calls Try.prog 74 #[v] w fun e w' => e = .returned (.bool true) ∧ Below w.heap.size w w' := by
  have e := AreParticles_ok B v (ps.map QP.pd) w (by rw [List.length_map]; exact h) (QP.all_ok ps hok) (by rw [List.length_map]; omega)
  exact e
theorem run_mkF8 (n : Nat) (hn : n ≤ 1000) (w : World) : (Instr.makeSlice 43 (.int .i64 n) (.int .i64 n)).run Try.prog w = .ok (.slice (some ⟨w.heap.size, 0, none⟩) n n) (w.alloc (.cells (fCells 8 (List.replicate n 0)) 27)) := by
  have e : fCells 8 (List.replicate n 0) = fCells 7 (List.replicate n 0) := by
    unfold fCells
    rw [List.map_replicate, List.map_replicate, wd_zero, wd_zero]
  rw [e]
  exact run_mkF n hn w

set_option maxHeartbeats 4000000 in
set_option maxRecDepth 20000 in
theorem DepositOfQ_ok (W H : Nat) (h : Sides W H) (B : Nat) (v : Value) (gs : List QP) (w : World) (hown : w.ownsRow B 52 4 v gs.length (psQ gs)) (hok : ∀ p ∈ gs, p.ok) (hN : gs.length ≤ 6) :
    Calls Try.prog 104 #[gridV W H, v] w fun e w' => ∃ g : Nat, e = .returned (.tuple #[.slice (some ⟨g, 0, none⟩) (W * H) (W * H), .bool true]) ∧ Has w' g 27 (fCells 8 (depQ W H gs)) ∧ w.heap.size ≤ g ∧ Below w.heap.size w w' := by
  have V := keep (fun w => ValidGrid_ok W H h w)
  have SZ := keep (fun w => size_ok W H h w)
  have SL := size_le W H h
  have AP := keep (fun w h => AregQ_ok B v gs w h hok hN)
  have DE := keep (fun x y hp q hq g fs hl M hM hM2 w hh => depositQ_ok W H h x y hp q hq g fs hl M hM hM2 w hh)
  have HW := keep hown
  have HO := keep hok
  have P := keep (Has.made w 25 #[.int .i64 W, .int .i64 H])
  have B0 := keep ((Below.refl w.heap.size w).alloc (Nat.le_refl _) (.cells #[.int .i64 W, .int .i64 H] 25))
  obtain ⟨A, c, rfl⟩ := own_slice hown
  clear hown hok h
  have DL := depQ_length W H
  have Z0 : List.replicate (W * H) 0 = depQ W H (gs.take 0) := by unfold depQ depAll; rfl
  generalize W * H = n at *
  have MK := keep (run_mkF8 n (by omega))
  rw [Z0] at MK
  clear Z0
  unfold gridV at *
  go_enter Try.func104, Try.ntmps104
  go_wp2_with fail
  refine (V.out _).mono ?_
  rintro e w1 ⟨rfl, hb⟩
  have B1 := keep (B0.out.trans (hb.mono B0.out.size))
  have P1 := keep (P.out.after hb)
  have H1 := keep (owns_below HW.out B1.out)
  clear hb B0 P V HW
  go_wp2_with fail
  refine (AP.out _ H1.out).mono ?_
  rintro e w2 ⟨rfl, hb⟩
  have B2 := keep (B1.out.trans (hb.mono B1.out.size))
  have p2 := P1.out.after hb
  have c2 := p2.cells
  have P2 := keep p2
  have H2 := keep (owns_below H1.out hb)
  clear hb B1 P1 H1 p2 AP
  go_wp2_with fail
  refine (SZ.out _).mono ?_
  rintro e w3 ⟨rfl, hb⟩
  have B3 := keep (B2.out.trans (hb.mono B2.out.size))
  have p3 := P2.out.after hb
  have c3 := p3.cells
  have P3 := keep p3
  have H3 := keep (owns_below H2.out hb)
  clear hb B2 P2 H2 c2 p3 SZ
  have mk := MK.out
  obtain ⟨A', c', he, hA⟩ := qown_form H3.out
  injection he with e1 e2 e3
  subst e1
  subst e3
  have HA := keep hA
  have P4 := keep (P3.out.beside (.cells (fCells 8 (depQ W H (gs.take 0))) 27))
  have F4 := keep (Has.made w3 27 (fCells 8 (depQ W H (gs.take 0))))
  have B4 := keep ((Below.refl w3.heap.size w3).alloc (Nat.le_refl _) (.cells (fCells 8 (depQ W H (gs.take 0))) 27))
  have lP := P3.out.in_heap
  clear H3 hA P3 MK
  go_wp2_with fail
  clear mk c3
  go_loopw [22] (fun s wr => ∃ i : Nat, i ≤ gs.length ∧ s = .int .i64 i ∧ Kept (Has wr w3.heap.size 27 (fCells 8 (depQ W H (gs.take i)))) ∧ Kept (Has wr w.heap.size 25 #[.int .i64 W, .int .i64 H]) ∧ Kept (Below w3.heap.size w3 wr)) (fun s _ => gs.length - (intOf s).toNat)
  case atStart => exact ⟨0, Nat.zero_le _, rfl, F4, P4, B4⟩
  case round =>
    clear P4 F4 B4
    obtain ⟨i, hi, rfl, hF, hP, hb⟩ := hrel
    by_cases hlt : i < gs.length
    · obtain ⟨g, rfl, hg, c0, c1, c2, c3⟩ := HA.out i hlt
      have d0 := (hb.out.cell (p := ⟨g, i * 4, none⟩) hg).trans c0
      have d1 := (hb.out.cell (p := ⟨g, i * 4 + 1, none⟩) hg).trans c1
      have d2 := (hb.out.cell (p := ⟨g, i * 4 + 2, none⟩) hg).trans c2
      have d3 := (hb.out.cell (p := ⟨g, i * 4 + 3, none⟩) hg).trans c3
      have T1 := keep (depQ_take W H gs i hlt)
      have SM := keep (depQ_small W H (gs.take i) (fun p hp => HO.out p (List.mem_of_mem_take hp)))
      have hp := HO.out _ (List.getElem_mem hlt)
      have HPl := keep (QP.place hp)
      have HQ := keep hp.2.2.2.2.1
      have cg := (hP.out.beside (.cells #[.complex .f32 (wd single 3 gs[i].x) (wd single 3 gs[i].y), .complex .f32 (wd single 3 gs[i].u) (wd single 3 gs[i].v), .float .f32 (wd single 2 gs[i].q), .float .f32 (wd single 1 gs[i].m)] 52)).cells
      have hF2 := hF.out.beside (.cells #[.complex .f32 (wd single 3 gs[i].x) (wd single 3 gs[i].y), .complex .f32 (wd single 3 gs[i].u) (wd single 3 gs[i].v), .float .f32 (wd single 2 gs[i].q), .float .f32 (wd single 1 gs[i].m)] 52)
      have hlen : (gs.take i).length ≤ 6 := by rw [List.length_take]; omega
      have DD := keep (DE.out gs[i].x gs[i].y HPl.out gs[i].q (by have := HQ.out; omega) w3.heap.size (depQ W H (gs.take i)) (DL _) _ SM.out (by omega) _ hF2)
      rw [DL] at DD
      have HF := keep hF2
      have zP := hP.out.in_heap
      have zF := hF.out.in_heap
      have HP2 := keep (fun o => hP.out.beside o)
      have HB2 := keep (fun o => hb.out.alloc hb.out.size o)
      clear c0 c1 c2 c3 hp hF hF2 HA HO hP hb
      generalize gs[i] = p at *
      unfold placeV at DD
      go_wp2_with fail
      refine DD.out.mono ?_
      rintro e w5 ⟨rfl, hF5, hg5⟩
      have HF5 := keep hF5
      have HP5 := keep ((HP2.out _).byG hg5 (by intro e; injection e with e; omega))
      have HB5 := keep ((HB2.out _).grown hg5 (HB2.out _).size (fun g e => by injection e with e; omega))
      clear hF5 hg5 cg d0 d1 d2 d3 HP2 HB2 DD HF
      go_wp2_with fail
      go_roundw
      case rel => exact ⟨i + 1, by omega, by go_num, keep (by rw [T1.out]; exact HF5.out), HP5, HB5⟩
      case measure => simp [intOf]; omega
    · obtain rfl : i = gs.length := by omega
      have hF2 := hF.out
      rw [List.take_length] at hF2
      have HF := keep hF2
      clear hF2
      go_wp2_with fail
      go_ret2
      exact ⟨_, rfl, HF.out, B3.out.size, B3.out.trans (hb.out.mono B3.out.size)⟩
/-- A number is added to the first i numbers. -/
def chgL (fs : List Int) (c : Int) (i : Nat) : List Int := (List.range fs.length).map fun k => fs.getD k 0 + if k < i then c else 0
theorem chgL_length (fs : List Int) (c : Int) (i : Nat) : (chgL fs c i).length = fs.length := by unfold chgL; rw [List.length_map, List.length_range]
theorem chgL_at (fs : List Int) (c : Int) (i k : Nat) (h : k < (chgL fs c i).length) : (chgL fs c i)[k] = fs.getD k 0 + if k < i then c else 0 := by
  simp [chgL]
theorem chgL_zero (fs : List Int) (c : Int) : chgL fs c 0 = fs := by
  refine List.ext_getElem (chgL_length _ _ _) fun k h1 h2 => ?_
  rw [chgL_at, if_neg (by omega), Int.add_zero, getD_at fs k h2]
theorem chgL_cell (fs : List Int) (c : Int) (i : Nat) (h : i < fs.length) : (fCells 8 (chgL fs c i))[i]? = some (.float .f32 (wd single 8 (fs.getD i 0))) := by
  rw [fCells_at 8 _ i (by rw [chgL_length]; exact h), chgL_at, if_neg (by omega), Int.add_zero]
theorem chgL_set (fs : List Int) (c : Int) (i : Nat) : (fCells 8 (chgL fs c i)).setIfInBounds i (.float .f32 (wd single 8 (fs.getD i 0 + c))) = fCells 8 (chgL fs c (i + 1)) := by
  rw [fCells_set]
  refine congrArg (fCells 8) (List.ext_getElem (by rw [List.length_set, chgL_length, chgL_length]) fun k h1 h2 => ?_)
  by_cases hk : i = k
  · subst hk
    rw [List.getElem_set_self, chgL_at, if_pos (by omega)]
  · rw [List.getElem_set_ne hk, chgL_at, chgL_at]
    by_cases hlt : k < i
    · rw [if_pos hlt, if_pos (by omega)]
    · rw [if_neg hlt, if_neg (by omega)]
theorem back_word (bk : Int) (h : bk.natAbs ≤ 1000) : wd single 3 bk = wd single 8 (32 * bk) := by
  have h := wd_up fit_single binade_le_single (k := 3) (a := bk) 5 (by decide) (by show bk.natAbs < 16777216; omega)
  rw [← h]
  show wd single 8 _ = _
  rw [show bk * ((2 ^ 5 : Nat) : Int) = 32 * bk by omega]
theorem chg_add (F : List Int) (M : Nat) (h : Small F M) (hM : M ≤ 1000000) (bk : Int) (hb : bk.natAbs ≤ 2) (i : Nat) : floatBits .add .f32 (wd single 8 (F.getD i 0)) (wd single 3 bk) = some (wd single 8 (F.getD i 0 + 32 * bk)) := by
  have := h.at i
  rw [back_word bk (by omega)]
  exact fadd (k := 8) (by omega) (by omega) (by omega) (by omega)
def chargeQ (W H : Nat) (ps : List QP) (bk : Int) : List Int := chgL (depQ W H ps) (32 * bk) (W * H)
theorem chargeQ_length (W H : Nat) (ps : List QP) (bk : Int) : (chargeQ W H ps bk).length = W * H := by unfold chargeQ; rw [chgL_length, depQ_length]

set_option maxHeartbeats 4000000 in
set_option maxRecDepth 20000 in
theorem charge_ok (W H : Nat) (ps : List QP) (m : Nat) (bk : Int) (hbk : bk.natAbs ≤ 2) (h : CloudOk W H ps m (wd single 3 bk)) (B : Nat) (v : Value) (w : World) (hown : RowQ w B v ps) :
    Calls Try.prog 61 #[cloudV W H v m (wd single 3 bk)] w fun e w' => ∃ g : Nat, e = .returned (.slice (some ⟨g, 0, none⟩) (W * H) (W * H)) ∧ Has w' g 27 (fCells 8 (chargeQ W H ps bk)) ∧ w.heap.size ≤ g ∧ Below w.heap.size w w' := by
  have DP := keep (fun w h' => DepositOfQ_ok W H h.sides B v ps w h' h.parts h.len)
  have P := keep (Has.made w 29 #[.int .i64 W, .int .i64 H, v, .float .f32 m, .float .f32 (wd single 3 bk)])
  have B0 := keep ((Below.refl w.heap.size w).alloc (Nat.le_refl _) (.cells #[.int .i64 W, .int .i64 H, v, .float .f32 m, .float .f32 (wd single 3 bk)] 29))
  have HO := keep (owns_below hown B0.out)
  obtain ⟨A, c, rfl, _⟩ := qown_form hown
  have DL := depQ_length W H ps
  have SM := depQ_small W H ps h.parts
  have hl := h.len
  have SM' : Small (depQ W H ps) 6144 := fun n hn => Nat.le_trans (SM n hn) (by omega)
  have AD := keep (chg_add (depQ W H ps) 6144 SM' (by omega) bk hbk)
  have SL := size_le W H h.sides
  have CE : Kept (chargeQ W H ps bk = chgL (depQ W H ps) (32 * bk) (W * H)) := keep rfl
  have Z0 := keep (chgL_zero (depQ W H ps) (32 * bk))
  clear hown h hbk SM SM'
  generalize depQ W H ps = F at *
  generalize chargeQ W H ps bk = CQ at *
  generalize W * H = n at *
  subst DL
  unfold gridV cloudV at *
  go_enter Try.func61, Try.ntmps61
  have cg := P.out.cells
  go_wp2_with fail
  refine (DP.out _ HO.out).mono ?_
  rintro e w1 ⟨g, rfl, hf, hge, hb⟩
  rw [← Z0.out] at hf
  rw [World.size_alloc] at hge
  have F1 := keep hf
  have P1 := keep (P.out.after hb)
  have B1 := keep (B0.out.trans (hb.mono B0.out.size))
  clear hf hb cg P B0 HO DP Z0
  go_wp2_with fail
  go_loopw [16] (fun s wr => ∃ i : Nat, i ≤ F.length ∧ s = .int .i64 i ∧ Kept (Has wr g 27 (fCells 8 (chgL F (32 * bk) i))) ∧ Kept (Has wr w.heap.size 29 #[.int .i64 W, .int .i64 H, .slice A ps.length c, .float .f32 m, .float .f32 (wd single 3 bk)]) ∧ Kept (Below w.heap.size w wr)) (fun s _ => F.length - (intOf s).toNat)
  case atStart => exact ⟨0, Nat.zero_le _, rfl, F1, P1, B1⟩
  case round =>
    clear F1 P1 B1
    obtain ⟨i, hi, rfl, hF, hP, hb⟩ := hrel
    by_cases hlt : i < F.length
    · have z1 := (hF.out.cells i).trans (chgL_cell F (32 * bk) i hlt)
      have z2 := hF.out.free i
      have f1 := frun (AD.out i)
      have z3 := hP.out.cells 4
      have ST := keep (chgL_set F (32 * bk) i)
      have lF := hF.out.in_heap
      have lP := hP.out.in_heap
      generalize F.getD i 0 = fi at *
      generalize fi + 32 * bk = fj at *
      go_wp2_with fail
      go_region
      go_wp2_with fail
      go_roundw
      case rel => exact ⟨i + 1, by omega, by go_num, keep (by
        rw [← ST.out]
        exact (hF.out.written i _).draws _), keep ((hP.out.elsewhere (p := ⟨g, i, none⟩) (by show w.heap.size ≠ g; omega) _).draws _), keep (Below.drewN_of (hb.out.setCell (p := ⟨g, i, none⟩) (by show w.heap.size ≤ g; omega) _) _)⟩
      case measure => simp [intOf]; omega
    · obtain rfl : i = F.length := by omega
      have hF2 := hF.out
      rw [← CE.out] at hF2
      have HF := keep hF2
      clear hF2
      go_wp2_with fail
      go_ret
      exact ⟨_, rfl, HF.out, by omega, hb.out⟩

set_option maxHeartbeats 2000000 in
set_option maxRecDepth 20000 in
theorem CloudCharge_ok (W H : Nat) (ps : List QP) (m : Nat) (bk : Int) (hbk : bk.natAbs ≤ 2) (h : CloudOk W H ps m (wd single 3 bk)) (B : Nat) (v : Value) (w : World) (hown : RowQ w B v ps) :
    Calls Try.prog 19 #[cloudV W H v m (wd single 3 bk)] w fun e w' => ∃ g : Nat, e = .returned (.tuple #[.slice (some ⟨g, 0, none⟩) (W * H) (W * H), .bool true]) ∧ Has w' g 27 (fCells 8 (chargeQ W H ps bk)) ∧ Below w.heap.size w w' := by
  have VC := keep (fun w h' => ValidCloud_ok W H ps m _ h B v w h')
  have CH := keep (fun w h' => charge_ok W H ps m bk hbk h B v w h')
  have P := keep (Has.made w 29 #[.int .i64 W, .int .i64 H, v, .float .f32 m, .float .f32 (wd single 3 bk)])
  have B0 := keep ((Below.refl w.heap.size w).alloc (Nat.le_refl _) (.cells #[.int .i64 W, .int .i64 H, v, .float .f32 m, .float .f32 (wd single 3 bk)] 29))
  have HO := keep (owns_below hown B0.out)
  obtain ⟨A, c, rfl, _⟩ := qown_form hown
  clear hown h hbk
  unfold cloudV at *
  go_enter Try.func19, Try.ntmps19
  have cg := P.out.cells
  go_wp2_with fail
  refine (VC.out _ HO.out).mono ?_
  rintro e w1 ⟨rfl, hb⟩
  have p1 := P.out.after hb
  clear cg
  have cg := p1.cells
  have O1 := keep (owns_below HO.out hb)
  have B1 := keep (B0.out.trans (hb.mono B0.out.size))
  clear hb P HO B0 VC
  go_wp2_with fail
  refine (CH.out _ O1.out).mono ?_
  rintro e w2 ⟨g, rfl, hf, hge, hb⟩
  have F2 := keep hf
  have B2 := keep (B1.out.trans (hb.mono B1.out.size))
  clear hf hb cg p1 O1 B1 CH
  go_wp2_with fail
  go_ret2
  exact ⟨_, rfl, F2.out, B2.out⟩
end Go.Proofs.Ytnmdgbnophclnaa
