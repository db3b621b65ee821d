/- Contract: the reference's text of a cloud holds no end of a line and is short. Conditions: its words are below 2^32, its sides small. Printed by mkWd.py. -/
import Derived.Test.YtldnldgndjbhfaaDoorWc
import Derived.Test.YtldnldgndjbhfaaDoorWp
namespace Go.Proofs.YtldnldgndjbhfaaDoor
open Go.RowKit Go.Sort Ieee
set_option linter.unusedSimpArgs false
set_option linter.unusedVariables false

/-! ### Texts without an end of a line -/
def Pl (k : Nat) (s : ByteArray) : Prop := s.size ≤ k ∧ ∀ b ∈ s.data.toList, b ≠ 10
theorem Pl.app {k l : Nat} {s t : ByteArray} (h : Pl k s) (g : Pl l t) : Pl (k + l) (s ++ t) := by
  refine ⟨by rw [app_size]; have := h.1; have := g.1; omega, fun b hb => ?_⟩
  rw [cat_bytes] at hb
  rcases List.mem_append.1 hb with h1 | h1
  · exact h.2 b h1
  · exact g.2 b h1
theorem Pl.mono {k l : Nat} {s : ByteArray} (h : Pl k s) (g : k ≤ l) : Pl l s := ⟨Nat.le_trans h.1 g, h.2⟩
theorem hx_mark : ∀ d : Fin 16, hx d.val ≠ 10 := by decide
theorem pd_mark : ∀ (k n : Nat), ∀ b ∈ pd k n, b ≠ 10 := by
  intro k
  induction k with
  | zero => intro n b hb; cases hb
  | succ k ih =>
    intro n b hb
    rcases List.mem_append.1 hb with h1 | h1
    · exact ih _ b h1
    · rw [List.mem_singleton.1 h1]
      exact hx_mark ⟨n % 16, Nat.mod_lt _ (by decide)⟩
theorem hexW_pl (b : Nat) (h : b < 4294967296) : Pl 8 (hexW b) := by
  refine ⟨Nat.le_of_eq (hexW_size b h), ?_⟩
  unfold hexW
  have hc : cb b < 4294967296 := by unfold cb; split <;> omega
  rw [tx_bytes, hex8_pd _ hc]
  exact pd_mark 8 _
theorem pl_one (b : UInt8) (h : b ≠ 10) : Pl 1 ⟨#[b]⟩ := by
  refine ⟨Nat.le_refl _, fun c hc => ?_⟩
  have : c = b := by simpa using hc
  rw [this]; exact h
theorem hexC_pl (p : Nat × Nat) (h1 : p.1 < 4294967296) (h2 : p.2 < 4294967296) : Pl 16 (hexC p) := (hexW_pl p.1 h1).app (hexW_pl p.2 h2)
theorem ptxt_pl (p : P6) (h : p.ok) : Pl 51 (ptxt p) := by
  have c := pl_one 44 (by decide)
  exact ((((hexC_pl _ h.1.1 h.1.2).app (c.app (hexC_pl _ h.2.1.1 h.2.1.2))).app (pl_one 58 (by decide))).app ((hexW_pl _ h.2.2.1).app (c.app (hexW_pl _ h.2.2.2)))).mono (by omega)
/-- A number in decimal. -/
def decW (n : Nat) : ByteArray := ⟨(Lib.itoa n).toArray⟩
theorem decW_pl (n : Nat) (h : n ≤ 65002) : Pl 5 (decW n) := by
  unfold decW
  refine ⟨(itoa_len n h).2, fun b hb => ?_⟩
  have hb2 : b ∈ Lib.itoa n := by simpa using hb
  rw [Lib.itoa_nonneg] at hb2
  have := dec_digit n b hb2
  intro e
  subst e
  revert this; decide
theorem Dec_ok (n : Nat) (h : n ≤ 65002) (w : World) : Calls Tryd.prog 19 #[.int .i64 n] w fun e w' => e = .returned (.string (decW n)) ∧ Below w.heap.size w w' := l01Dec_any n w h
theorem IText_at (W H : Nat) (hW : W ≤ 65002) (hH : H ≤ 65002) (B c : Nat) (w : World) (hh : Has w B 2 #[.int .i64 W, .int .i64 H]) : Calls Tryd.prog 37 #[.slice (some ⟨B, 0, none⟩) 2 c] w fun e w' => e = .returned (.string (decW W ++ ((⟨#[44]⟩ : ByteArray) ++ decW H))) ∧ Below w.heap.size w w' :=
  l01Text_two B c _ _ _ _ w (hh.cells 0) (hh.cells 1) (Nat.le_trans (decW_pl W hW).1 (by omega)) (Nat.le_trans (decW_pl H hH).1 (by omega)) (Dec_ok W hW) (Dec_ok H hH)

/-- Particles in a row. -/
def Pts (w : World) (A : Option Addr) (ps : List P6) : Prop := ∀ i (h : i < ps.length), ∃ g, A = some ⟨g, 0, none⟩ ∧ Pt w g (i * 4) ps[i]
theorem Pts.after {w w' : World} {A : Option Addr} {ps : List P6} (h : Pts w A ps) (hb : Below w.heap.size w w') : Pts w' A ps := fun i hi => by
  obtain ⟨g, e, hp⟩ := h i hi
  exact ⟨g, e, hp.after hb⟩

set_option maxHeartbeats 8000000 in
set_option maxRecDepth 20000 in
theorem l11Text_any (gc c W H mg bk : Nat) (A : Option Addr) (ps : List P6) (w : World) (hW : W ≤ 65002) (hH : H ≤ 65002) (hmg : mg < 4294967296) (hbk : bk < 4294967296) (hN : ps.length ≤ 6) (hok : ∀ p ∈ ps, p.ok)
    (hc : Has w gc 31 #[.int .i64 W, .int .i64 H, .slice A ps.length c, .float .f32 mg, .float .f32 bk]) (hp : Pts w A ps) :
    Calls Tryd.prog 22 #[.pointer (some ⟨gc, 0, none⟩)] w fun e w' => ∃ s, Pl 400 s ∧ e = .returned (.string s) ∧ Below w.heap.size w w' := by
  have CT := keep (fun B c w h => IText_at W H hW hH B c w h)
  have NT := keep (fun B c w h => NText_at mg bk hmg hbk B c w h)
  have q1 := keep ((decW_pl W hW).app ((pl_one 44 (by decide)).app (decW_pl H hH)))
  have q2 := keep ((hexW_pl mg hmg).app ((pl_one 44 (by decide)).app (hexW_pl bk hbk)))
  have z1 := q1.out.1
  have z2 := q2.out.1
  have HC := keep hc
  have HP := keep hp
  have HK := keep hok
  have PA := keep (fun (g o : Nat) (p : P6) (w : World) (hp : p.ok) (h : Pt w g o p) => l11Particle_any g o p w hp h)
  have SOF := keep (fun (wz : World) (hg : Below w.heap.size w wz) => (⟨(hc.after hg).cells 0, (hc.after hg).cells 1, (hc.after hg).cells 3, (hc.after hg).cells 4, hg⟩ : wz.cell? ⟨gc, 0, none⟩ = some (.int .i64 W) ∧ wz.cell? ⟨gc, 1, none⟩ = some (.int .i64 H) ∧ wz.cell? ⟨gc, 3, none⟩ = some (.float .f32 mg) ∧ wz.cell? ⟨gc, 4, none⟩ = some (.float .f32 bk) ∧ Below w.heap.size w wz))
  generalize decW W ++ ((⟨#[44]⟩ : ByteArray) ++ decW H) = tc at *
  generalize hexW mg ++ ((⟨#[44]⟩ : ByteArray) ++ hexW bk) = tn at *
  have hcc := hc.cells
  clear hW hH hmg hbk hok hp hc
  go_enter Tryd.func22, Tryd.ntmps22
  go_wp2_with fail
  clear hcc
  go_cut [3] (fun s3 wx => ∃ s : ByteArray, s3 = .string s ∧ Kept (Pl 30 s) ∧ Kept (Below w.heap.size w wx))
  case first =>
    have S0 := SOF.out w (Below.refl _ _)
    have h1 := keep (show Has (w.alloc (.cells #[.int .i64 W, .int .i64 H] 2)).drew w.heap.size 2 #[.int .i64 W, .int .i64 H] from Has.made w _ _)
    have h2 := keep (show Has (w.alloc (.cells #[.float .f32 mg, .float .f32 bk] 29)).drew w.heap.size 29 #[.float .f32 mg, .float .f32 bk] from Has.made w _ _)
    have h12a := keep (show Has ((w.alloc (.cells #[.int .i64 W, .int .i64 H] 2)).alloc (.cells #[.float .f32 mg, .float .f32 bk] 29)).drew w.heap.size 2 #[.int .i64 W, .int .i64 H] from (Has.made w _ _).beside _)
    have h12b := keep (show Has ((w.alloc (.cells #[.int .i64 W, .int .i64 H] 2)).alloc (.cells #[.float .f32 mg, .float .f32 bk] 29)).drew (w.heap.size + 1) 29 #[.float .f32 mg, .float .f32 bk] from by have h := Has.made (w.alloc (.cells #[.int .i64 W, .int .i64 H] 2)) 29 #[.float .f32 mg, .float .f32 bk]; rw [World.size_alloc] at h; exact h)
    have h21a := keep (show Has ((w.alloc (.cells #[.float .f32 mg, .float .f32 bk] 29)).alloc (.cells #[.int .i64 W, .int .i64 H] 2)).drew (w.heap.size + 1) 2 #[.int .i64 W, .int .i64 H] from by have h := Has.made (w.alloc (.cells #[.float .f32 mg, .float .f32 bk] 29)) 2 #[.int .i64 W, .int .i64 H]; rw [World.size_alloc] at h; exact h)
    have h21b := keep (show Has ((w.alloc (.cells #[.float .f32 mg, .float .f32 bk] 29)).alloc (.cells #[.int .i64 W, .int .i64 H] 2)).drew w.heap.size 29 #[.float .f32 mg, .float .f32 bk] from (Has.made w _ _).beside _)
    have b1 := keep (show Below w.heap.size w (w.alloc (.cells #[.int .i64 W, .int .i64 H] 2)).drew from Below.drew ((Below.refl _ w).alloc (Nat.le_refl _) _))
    have b2 := keep (show Below w.heap.size w (w.alloc (.cells #[.float .f32 mg, .float .f32 bk] 29)).drew from Below.drew ((Below.refl _ w).alloc (Nat.le_refl _) _))
    have b12 := keep (show Below w.heap.size w ((w.alloc (.cells #[.int .i64 W, .int .i64 H] 2)).alloc (.cells #[.float .f32 mg, .float .f32 bk] 29)).drew from Below.drew (((Below.refl _ w).alloc (Nat.le_refl _) _).alloc (by simp) _))
    have b21 := keep (show Below w.heap.size w ((w.alloc (.cells #[.float .f32 mg, .float .f32 bk] 29)).alloc (.cells #[.int .i64 W, .int .i64 H] 2)).drew from Below.drew (((Below.refl _ w).alloc (Nat.le_refl _) _).alloc (by simp) _))
    have k1 := keep (CT.out w.heap.size 2 _ h1.out)
    have k2 := keep (NT.out w.heap.size 2 _ h2.out)
    have k12a := keep (CT.out w.heap.size 2 _ h12a.out)
    have k12b := keep (NT.out (w.heap.size + 1) 2 _ h12b.out)
    have k21a := keep (CT.out (w.heap.size + 1) 2 _ h21a.out)
    have k21b := keep (NT.out w.heap.size 2 _ h21b.out)
    go_region_held (fun wz => wz.cell? ⟨gc, 0, none⟩ = some (.int .i64 W) ∧ wz.cell? ⟨gc, 1, none⟩ = some (.int .i64 H) ∧ wz.cell? ⟨gc, 3, none⟩ = some (.float .f32 mg) ∧ wz.cell? ⟨gc, 4, none⟩ = some (.float .f32 bk) ∧ Below w.heap.size w wz)
      (first
        | (with_reducible exact SOF.out _ (Below.refl _ _))
        | (with_reducible exact SOF.out _ B4.out)
        | (with_reducible exact SOF.out _ B3.out)
        | (with_reducible exact SOF.out _ (B3.out.alloc B3.out.size _))
        | (with_reducible exact SOF.out _ b1.out)
        | (with_reducible exact SOF.out _ b2.out)
        | (with_reducible exact SOF.out _ b12.out)
        | (with_reducible exact SOF.out _ b21.out)
        | (with_reducible exact SOF.out _ (Below.drew (Below.refl _ _))))
      (first
        | ((with_reducible refine k1.out.mono ?_)
           rintro e w3 ⟨rfl, hb3⟩
           have B3 := keep (b1.out.trans (hb3.mono b1.out.size))
           have NX := keep (NT.out w3.heap.size 2 (w3.alloc (.cells #[.float .f32 mg, .float .f32 bk] 29)) (Has.made w3 _ _))
           clear hb3)
        | ((with_reducible refine k2.out.mono ?_)
           rintro e w3 ⟨rfl, hb3⟩
           have B3 := keep (b2.out.trans (hb3.mono b2.out.size))
           have NX := keep (CT.out w3.heap.size 2 (w3.alloc (.cells #[.int .i64 W, .int .i64 H] 2)) (Has.made w3 _ _))
           clear hb3)
        | ((with_reducible refine k12a.out.mono ?_)
           rintro e w3 ⟨rfl, hb3⟩
           have B3 := keep (b12.out.trans (hb3.mono b12.out.size))
           have NX := keep (NT.out (w.heap.size + 1) 2 w3 (h12b.out.after hb3))
           clear hb3)
        | ((with_reducible refine k12b.out.mono ?_)
           rintro e w3 ⟨rfl, hb3⟩
           have B3 := keep (b12.out.trans (hb3.mono b12.out.size))
           have NX := keep (CT.out w.heap.size 2 w3 (h12a.out.after hb3))
           clear hb3)
        | ((with_reducible refine k21a.out.mono ?_)
           rintro e w3 ⟨rfl, hb3⟩
           have B3 := keep (b21.out.trans (hb3.mono b21.out.size))
           have NX := keep (NT.out w.heap.size 2 w3 (h21b.out.after hb3))
           clear hb3)
        | ((with_reducible refine k21b.out.mono ?_)
           rintro e w3 ⟨rfl, hb3⟩
           have B3 := keep (b21.out.trans (hb3.mono b21.out.size))
           have NX := keep (CT.out (w.heap.size + 1) 2 w3 (h21a.out.after hb3))
           clear hb3)
        | ((with_reducible refine NX.out.mono ?_)
           rintro e w4 ⟨rfl, hb4⟩
           have B4 := keep (show Below w.heap.size w w4 from by first | exact B3.out.trans (hb4.mono B3.out.size) | exact (B3.out.alloc B3.out.size _).trans (hb4.mono (B3.out.alloc B3.out.size _).size))
           clear hb4))
    all_goals (
      have P0 := keep (((q1.out.app (pl_one 59 (by decide))).app q2.out).app (pl_one 59 (by decide)))
      have z0 := P0.out.1
      go_wp2_with fail
      go_meet
      exact ⟨_, rfl, P0, B4⟩)
  case rest =>
    obtain ⟨t0, rfl, P0, B4⟩ := hcut
    clear z1 z2 q1 q2 SOF CT NT
    have hc4 := (HC.out.after B4.out).cells
    have z0 := P0.out.1
    by_cases hz : ps.length = 0
    · have hz2 : ((ps.length : Int) == 0) = true := by rw [hz]; rfl
      have E4 := keep (P0.out.app (show Pl 4 (⟨#[110, 111, 110, 101]⟩ : ByteArray) from ⟨Nat.le_refl _, by decide⟩))
      go_wp2_with fail
      go_ret
      exact ⟨_, E4.out.mono (by omega), rfl, B4.out⟩
    · have hz2 : ((ps.length : Int) == 0) = false := by rw [beq_eq_false_iff_ne]; omega
      obtain ⟨g, hA, _⟩ := HP.out 0 (by omega)
      subst hA
      go_wp2_with fail
      clear hc4
      go_loopw [3, 43] (fun o t wr => ∃ (i : Nat) (s : ByteArray), t = .int .i64 i ∧ o = .string s ∧ i ≤ ps.length ∧ Kept (Pl (30 + 52 * i) s) ∧ Kept (Below w.heap.size w wr)) (fun _ t _ => ps.length - (intOf t).toNat)
      case atStart => exact ⟨0, _, rfl, rfl, by omega, P0, B4⟩
      case round =>
        clear P0 B4 z0
        obtain ⟨i, s, rfl, rfl, hi, hpl, hb⟩ := hrel
        by_cases hlt : i < ps.length
        · have hltI : (i : Int) < (ps.length : Int) := by omega
          have hI0 : (0 : Int) ≤ (i : Int) := by omega
          obtain ⟨g', hA, hpt⟩ := HP.out i hlt
          injection hA with hA
          injection hA with hA
          subst hA
          have hcc := (HC.out.after hb.out).cells
          have c2 := hcc 2
          clear hcc
          have PX := keep (PA.out g (i * 4) ps[i] wr (HK.out _ (List.getElem_mem hlt)) (hpt.after hb.out))
          have PL := keep (ptxt_pl ps[i] (HK.out _ (List.getElem_mem hlt)))
          have zs := hpl.out.1
          have zp := PL.out.1
          have sl1 := app_size s (⟨#[47]⟩ : ByteArray)
          rw [one_size] at sl1
          clear hpt
          generalize ptxt ps[i] = pt at *
          by_cases h0 : i = 0
          · subst h0
            rw [Nat.zero_mul] at PX
            have N1 := keep ((hpl.out.app PL.out).mono (l := 30 + 52 * (0 + 1)) (by omega))
            go_wp2_with fail
            refine PX.out.mono ?_
            rintro e w5 ⟨rfl, hb5⟩
            have B5 := keep (hb.out.trans (hb5.mono hb.out.size))
            clear hb5 c2
            go_wp2_with fail
            go_roundw
            case rel => exact ⟨0 + 1, _, by go_num, rfl, by omega, N1, B5⟩
            case measure => simp [intOf]; omega
          · have h0I : (0 : Int) < (i : Int) := by omega
            clear h0
            have N1 := keep (((hpl.out.app (pl_one 47 (by decide))).app PL.out).mono (l := 30 + 52 * (i + 1)) (by omega))
            go_wp2_with fail
            refine PX.out.mono ?_
            rintro e w5 ⟨rfl, hb5⟩
            have B5 := keep (hb.out.trans (hb5.mono hb.out.size))
            clear hb5 c2
            go_wp2_with fail
            go_roundw
            case rel => exact ⟨i + 1, _, by go_num, rfl, by omega, N1, B5⟩
            case measure => simp [intOf]; omega
        · obtain rfl : i = ps.length := by omega
          go_wp2_with fail
          go_ret
          exact ⟨_, hpl.out.mono (by omega), rfl, hb.out⟩
end Go.Proofs.YtldnldgndjbhfaaDoor
