/- Contracts: the field of the charges of particles; sums of numbers; fields. -/
import Derived.Test.YtnmdgbnophclnaaKa
import Derived.Test.YtnmdgbnophclnaaId
namespace Go.Proofs.Ytnmdgbnophclnaa
open Go.RowKit Go.Sort Ieee
set_option linter.unusedSimpArgs false

theorem size_le (W H : Nat) (h : Sides W H) : 16 ≤ W * H ∧ W * H ≤ 49 := by
  obtain ⟨⟨h1, h2⟩, h3, h4⟩ := h
  exact ⟨Nat.mul_le_mul (m₁ := 4) (n₁ := 4) h1 h3, Nat.mul_le_mul (m₂ := 7) (n₂ := 7) h2 h4⟩

set_option maxHeartbeats 1000000 in
theorem size_ok (W H : Nat) (h : Sides W H) (w : World) : Calls Try.prog 59 #[gridV W H] w fun e w' => e = .returned (.int .i64 ((W * H : Nat) : Int)) ∧ Below w.heap.size w w' := by
  have hb := size_le W H h
  have e : ((W * H : Nat) : Int) = (W : Int) * (H : Int) := Int.natCast_mul ..
  have hw : IntKind.i64.wrap ((W : Int) * (H : Int)) = (W : Int) * (H : Int) := by rw [← e]; exact IntWalk.i64_in _ ⟨by omega, by omega⟩
  rw [e]
  clear hb e h
  unfold gridV
  go_enter Try.func59, Try.ntmps59
  go_wp2_with fail
  go_ret
  exact ⟨rfl, by go_grown⟩

theorem zeros_word (n : Nat) : Array.replicate n (Value.float .f32 0) = fCells 7 (List.replicate n 0) := by
  unfold fCells
  rw [List.map_replicate, wd_zero, List.toArray_replicate]

theorem infoF32 : (Try.prog.info? 27).map (fun i => (i.zero, i.size, i.bytes)) = some (some (.float .f32 0), 1, 4) := by kernel_rfl
theorem infoI64 : (Try.prog.info? 2).map (fun i => (i.zero, i.size, i.bytes)) = some (some (.int .i64 0), 1, 8) := by kernel_rfl
theorem made_one (z : Value) (hz : z.cells = #[z]) (n : Nat) : madeCells z.cells (n * 1) = Array.replicate n z := by
  rw [hz, Nat.mul_one]
  apply Array.ext
  · simp [madeCells]
  · intro i h1 h2
    simp [madeCells, Nat.mod_one]
theorem run_mkF (n : Nat) (hn : n ≤ 1000) (w : World) : (Instr.makeSlice 43 (.int .i64 n) (.int .i64 n)).run Try.prog w = .ok (.slice (some ⟨w.heap.size, 0, none⟩) n n) (w.alloc (.cells (fCells 7 (List.replicate n 0)) 27)) := by
  obtain ⟨i0, hi0, hz0, hz1, hz2⟩ := info_parts infoF32
  have h := run_makeSlice w 43 27 i0 _ Try.underlying43 hi0 hz0 .i64 .i64 n n (by omega) (Int.le_refl _) (by rw [hz1]; omega) (by rw [hz2]; omega) (by omega)
  rw [Int.toNat_natCast, hz1, made_one _ rfl, zeros_word] at h
  exact h
theorem run_mkI (n : Nat) (hn : n ≤ 1000) (w : World) : (Instr.makeSlice 31 (.int .i64 n) (.int .i64 n)).run Try.prog w = .ok (.slice (some ⟨w.heap.size, 0, none⟩) n n) (w.alloc (.cells (Array.replicate n (.int .i64 0)) 2)) := by
  obtain ⟨i0, hi0, hz0, hz1, hz2⟩ := info_parts infoI64
  have h := run_makeSlice w 31 2 i0 _ Try.underlying31 hi0 hz0 .i64 .i64 n n (by omega) (Int.le_refl _) (by rw [hz1]; omega) (by rw [hz2]; omega) (by omega)
  rw [Int.toNat_natCast, hz1, made_one _ rfl] at h
  exact h

def depAll (W H : Nat) (gs : List GP) : List Int := gs.foldl (fun fs p => depF p.q (cornersL W H p.x p.y) fs) (List.replicate (W * H) 0)
theorem depAll_take (W H : Nat) (gs : List GP) (i : Nat) (h : i < gs.length) : depAll W H (gs.take (i + 1)) = depF gs[i].q (cornersL W H gs[i].x gs[i].y) (depAll W H (gs.take i)) := by
  unfold depAll
  rw [List.take_succ_eq_append_getElem h, List.foldl_append]
  rfl
theorem depAll_length (W H : Nat) (gs : List GP) : (depAll W H gs).length = W * H := by
  unfold depAll
  have h : ∀ (gs : List GP) (fs : List Int), (gs.foldl (fun fs p => depF p.q (cornersL W H p.x p.y) fs) fs).length = fs.length := by
    intro gs
    induction gs with
    | nil => intro fs; rfl
    | cons p gs ih => intro fs; rw [List.foldl_cons, ih, depF_length]
  rw [h, List.length_replicate]
theorem depAll_small (W H : Nat) (gs : List GP) (hok : ∀ p ∈ gs, p.ok) : Small (depAll W H gs) (1024 * gs.length) := by
  unfold depAll
  have h : ∀ (gs : List GP), (∀ p ∈ gs, p.ok) → ∀ (fs : List Int) (M : Nat), Small fs M → Small (gs.foldl (fun fs p => depF p.q (cornersL W H p.x p.y) fs) fs) (M + 1024 * gs.length) := by
    intro gs
    induction gs with
    | nil => intro _ fs M h; exact h
    | cons p gs ih =>
      intro ho fs M h
      obtain ⟨_, _, _, _, ⟨q0, q1⟩, _⟩ := ho p (List.mem_cons_self ..)
      have h1 := Small.dep (q := p.q) (by omega) (cornersL W H p.x p.y) (fun c hc => (cornersL_share W H p.x p.y c hc).2) h
      have h2 := ih (fun q hq => ho q (List.mem_cons_of_mem _ hq)) _ _ h1
      intro n hn
      have h3 := h2 n hn
      have e : (cornersL W H p.x p.y).length = 4 := rfl
      rw [e] at h3
      rw [List.length_cons]
      omega
  have h2 := h gs hok (List.replicate (W * H) 0) 0 (fun n hn => by rw [(List.mem_replicate.1 hn).2]; exact Nat.le_refl _)
  rwa [Nat.zero_add] at h2
theorem GP.place {p : GP} (h : p.ok) : PlaceOk p.x p.y := by
  obtain ⟨h1, h2, _⟩ := h
  exact ⟨⟨by omega, by omega⟩, by omega, by omega⟩

set_option maxHeartbeats 4000000 in
set_option maxRecDepth 20000 in
theorem DepositOf_ok (W H : Nat) (h : Sides W H) (B : Nat) (v : Value) (gs : List GP) (w : World) (hown : w.ownsRow B 52 4 v gs.length (psCells (gs.map GP.pd))) (hok : ∀ p ∈ gs, p.ok) (hN : gs.length ≤ 6) :
    Calls Try.prog 104 #[gridV W H, v] w fun e w' => ∃ g : Nat, e = .returned (.tuple #[.slice (some ⟨g, 0, none⟩) (W * H) (W * H), .bool true]) ∧ Has w' g 27 (fCells 7 (depAll W H gs)) ∧ Below w.heap.size w w' := by
  have V := keep (fun w => ValidGrid_ok W H h w)
  have SZ := keep (fun w => size_ok W H h w)
  have SL := size_le W H h
  have AP := keep (fun w h => Areg_ok B v gs w h hok hN)
  have DE := keep (fun x y hp q hq g fs hl M hM hM2 w hh => deposit_ok W H h x y hp q hq g fs hl M hM hM2 w hh)
  have HW := keep hown
  have HO := keep hok
  have P := keep (Has.made w 25 #[.int .i64 W, .int .i64 H])
  have B0 := keep ((Below.refl w.heap.size w).alloc (Nat.le_refl _) (.cells #[.int .i64 W, .int .i64 H] 25))
  obtain ⟨A, c, rfl⟩ := own_slice hown
  clear hown hok h
  have DL := depAll_length W H
  have Z0 : List.replicate (W * H) 0 = depAll W H (gs.take 0) := rfl
  generalize W * H = n at *
  have MK := keep (run_mkF n (by omega))
  rw [Z0] at MK
  clear Z0
  unfold gridV at *
  go_enter Try.func104, Try.ntmps104
  go_wp2_with fail
  refine (V.out _).mono ?_
  rintro e w1 ⟨rfl, hb⟩
  have B1 := keep (B0.out.trans (hb.mono B0.out.size))
  have P1 := keep (P.out.after hb)
  have H1 := keep (owns_below HW.out B1.out)
  clear hb B0 P V HW
  go_wp2_with fail
  refine (AP.out _ H1.out).mono ?_
  rintro e w2 ⟨rfl, hb⟩
  have B2 := keep (B1.out.trans (hb.mono B1.out.size))
  have p2 := P1.out.after hb
  have c2 := p2.cells
  have P2 := keep p2
  have H2 := keep (owns_below H1.out hb)
  clear hb B1 P1 H1 p2 AP
  go_wp2_with fail
  refine (SZ.out _).mono ?_
  rintro e w3 ⟨rfl, hb⟩
  have B3 := keep (B2.out.trans (hb.mono B2.out.size))
  have p3 := P2.out.after hb
  have c3 := p3.cells
  have P3 := keep p3
  have H3 := keep (owns_below H2.out hb)
  clear hb B2 P2 H2 c2 p3 SZ
  have mk := MK.out
  obtain ⟨A', c', he, hA⟩ := gown_form H3.out
  injection he with e1 e2 e3
  subst e1
  subst e3
  have HA := keep hA
  have P4 := keep (P3.out.beside (.cells (fCells 7 (depAll W H (gs.take 0))) 27))
  have F4 := keep (Has.made w3 27 (fCells 7 (depAll W H (gs.take 0))))
  have B4 := keep ((Below.refl w3.heap.size w3).alloc (Nat.le_refl _) (.cells (fCells 7 (depAll W H (gs.take 0))) 27))
  have lP := P3.out.in_heap
  clear H3 hA P3 MK
  go_wp2_with fail
  clear mk c3
  go_loopw [22] (fun s wr => ∃ i : Nat, i ≤ gs.length ∧ s = .int .i64 i ∧ Kept (Has wr w3.heap.size 27 (fCells 7 (depAll W H (gs.take i)))) ∧ Kept (Has wr w.heap.size 25 #[.int .i64 W, .int .i64 H]) ∧ Kept (Below w3.heap.size w3 wr)) (fun s _ => gs.length - (intOf s).toNat)
  case atStart => exact ⟨0, Nat.zero_le _, rfl, F4, P4, B4⟩
  case round =>
    clear P4 F4 B4
    obtain ⟨i, hi, rfl, hF, hP, hb⟩ := hrel
    by_cases hlt : i < gs.length
    · obtain ⟨g, rfl, hg, c0, c1, c2, c3⟩ := HA.out i hlt
      have d0 := (hb.out.cell (p := ⟨g, i * 4, none⟩) hg).trans c0
      have d1 := (hb.out.cell (p := ⟨g, i * 4 + 1, none⟩) hg).trans c1
      have d2 := (hb.out.cell (p := ⟨g, i * 4 + 2, none⟩) hg).trans c2
      have d3 := (hb.out.cell (p := ⟨g, i * 4 + 3, none⟩) hg).trans c3
      have T1 := keep (depAll_take W H gs i hlt)
      have SM := keep (depAll_small W H (gs.take i) (fun p hp => HO.out p (List.mem_of_mem_take hp)))
      have hp := HO.out _ (List.getElem_mem hlt)
      have HPl := keep (GP.place hp)
      have HQ := keep hp.2.2.2.2.1
      have cg := (hP.out.beside (.cells #[.complex .f32 (wd single 3 gs[i].x) (wd single 3 gs[i].y), .complex .f32 (wd single 3 gs[i].u) (wd single 3 gs[i].v), .float .f32 (wd single 1 gs[i].q), .float .f32 (wd single 2 gs[i].m)] 52)).cells
      have hF2 := hF.out.beside (.cells #[.complex .f32 (wd single 3 gs[i].x) (wd single 3 gs[i].y), .complex .f32 (wd single 3 gs[i].u) (wd single 3 gs[i].v), .float .f32 (wd single 1 gs[i].q), .float .f32 (wd single 2 gs[i].m)] 52)
      have hlen : (gs.take i).length ≤ 6 := by rw [List.length_take]; omega
      have DD := keep (DE.out gs[i].x gs[i].y HPl.out gs[i].q (by have := HQ.out; omega) w3.heap.size (depAll W H (gs.take i)) (DL _) _ SM.out (by omega) _ hF2)
      rw [DL] at DD
      have HF := keep hF2
      have zP := hP.out.in_heap
      have zF := hF.out.in_heap
      have HP2 := keep (fun o => hP.out.beside o)
      have HB2 := keep (fun o => hb.out.alloc hb.out.size o)
      clear c0 c1 c2 c3 hp hF hF2 HA HO hP hb
      generalize gs[i] = p at *
      unfold placeV at DD
      go_wp2_with fail
      refine DD.out.mono ?_
      rintro e w5 ⟨rfl, hF5, hg5⟩
      have HF5 := keep hF5
      have HP5 := keep ((HP2.out _).byG hg5 (by intro e; injection e with e; omega))
      have HB5 := keep ((HB2.out _).grown hg5 (HB2.out _).size (fun g e => by injection e with e; omega))
      clear hF5 hg5 cg d0 d1 d2 d3 HP2 HB2 DD HF
      go_wp2_with fail
      go_roundw
      case rel => exact ⟨i + 1, by omega, by go_num, keep (by rw [T1.out]; exact HF5.out), HP5, HB5⟩
      case measure => simp [intOf]; omega
    · obtain rfl : i = gs.length := by omega
      have hF2 := hF.out
      rw [List.take_length] at hF2
      have HF := keep hF2
      clear hF2
      go_wp2_with fail
      go_ret2
      exact ⟨_, rfl, HF.out, B3.out.trans (hb.out.mono B3.out.size)⟩
end Go.Proofs.Ytnmdgbnophclnaa
