/- Contract: a drawn cloud of any words. No condition but that the bytes can be read. Contracts: a drawn particle for a cloud, one of some texts, a drawn line. No condition but that the bytes can be read. Contracts: a line drawn for a cloud; a drawn cloud; drawn lines. Printed by mkWh.py. Contracts: a drawn cloud, drawn lines, each of at most 500 bytes without the mark. -/
import Derived.Test.YtldnldgndjbhfaaDoorWe
import Derived.Test.YtldnldgndjbhfaaDoorGg
import Derived.Test.YtldnldgndjbhfaaDoorValid
import Derived.Deep.RegionLaw
import Derived.Deep.AppendLies
namespace Go.Proofs.YtldnldgndjbhfaaDoor
open Go.RowKit Go.Sort Ieee
set_option linter.unusedSimpArgs false
set_option linter.unusedVariables false

theorem zIn (n lo hi : Int) (w : World) : Calls Tryd.prog 40 #[.int .i64 n, .int .i64 lo, .int .i64 hi] w fun e w' => e = .returned (.bool (decide (lo ≤ n) && decide (n ≤ hi))) ∧ w' = w := by
  by_cases h : lo ≤ n
  all_goals
    go_enter Tryd.func40, Tryd.ntmps40
    go_wp2
    go_ret
    exact ⟨by first | (simp [h]; done) | (simp; omega), rfl⟩

set_option maxHeartbeats 1000000 in
theorem zIs (W H : Nat) (h : Sides W H) (g : Nat) (w : World) (c0 : w.cell? ⟨g, 0, none⟩ = some (.int .i64 W)) (c1 : w.cell? ⟨g, 1, none⟩ = some (.int .i64 H)) : Calls Tryd.prog 27 #[.pointer (some ⟨g, 0, none⟩)] w fun e w' => e = .returned (.bool true) ∧ w' = w := by
  have A := fun w => zIn W 4 16 w
  have B := fun w => zIn H 4 16 w
  obtain ⟨⟨h1, h2⟩, h3, h4⟩ := h
  rw [decide_eq_true (show (4 : Int) ≤ W by omega), decide_eq_true (show (W : Int) ≤ 16 by omega)] at A
  rw [decide_eq_true (show (4 : Int) ≤ H by omega), decide_eq_true (show (H : Int) ≤ 16 by omega)] at B
  have A := keep A
  have B := keep B
  go_enter Tryd.func27, Tryd.ntmps27
  go_wp2_with fail
  refine (A.out _).mono ?_
  rintro e w' ⟨rfl, rfl⟩
  go_wp2_with fail
  refine (B.out _).mono ?_
  rintro e w' ⟨rfl, rfl⟩
  go_wp2_with fail
  go_ret
  exact ⟨rfl, rfl⟩

theorem zgb_row (w : World) (g o : Nat) (u : Value) : w.grownBy (w.setCell ⟨g, o, none⟩ u) (some g) :=
  ⟨rfl, rfl, rfl, by simp [World.setCell], fun k _ hne => Below.heap_setCell w ⟨g, o, none⟩ u k (fun e => hne (by rw [e]))⟩
theorem zown_low {w : World} {B e n size g o : Nat} {v : Value} {xs : List Value} (h : w.ownsRow B e size v n xs) (hg : g < B) (u : Value) : (w.setCell ⟨g, o, none⟩ u).ownsRow B e size v n xs :=
  h.kept (zgb_row w g o u) (.inr fun e => by have := (h.lt g e).1; omega)
theorem zown_base {w : World} {B B' e size n : Nat} {v : Value} {xs : List Value} (h : w.ownsRow B e size v n xs) (hB : B' ≤ B) : w.ownsRow B' e size v n xs := by
  refine ⟨h.1, ?_⟩
  rcases h.2 with h1 | ⟨g, cap, cur, h1, h2, h3⟩
  · exact .inl h1
  · exact .inr ⟨g, cap, cur, h1, Nat.le_trans hB h2, h3⟩
def zApart (v1 v2 : Value) : Prop := v1.ownBlock = none ∨ v1.ownBlock ≠ v2.ownBlock
theorem zApart.step {w : World} {B e size n : Nat} {v1 v1' v2 : Value} {xs : List Value} (h : w.ownsRow B e size v2 n xs) (d : zApart v1 v2) (d' : zApart v2 v1) (hor : v1'.ownBlock = v1.ownBlock ∨ v1'.ownBlock = some w.heap.size) : zApart v1' v2 ∧ zApart v2 v1' := by
  unfold zApart at *
  rcases hor with h1 | h1
  · rw [h1]; exact ⟨d, d'⟩
  · rw [h1]
    have hl : v2.ownBlock ≠ some w.heap.size := fun e => by have := (h.lt _ e).2; omega
    exact ⟨.inr (fun e => hl e.symm), .inr hl⟩

/-- What a particle's cells in an owned row are. -/
theorem p6row_at (ps : List P6) (i : Nat) (h : i < ps.length) (j : Nat) (hj : j < 4) : (p6row ps)[i * 4 + j]? = (p6cells ps[i])[j]? := by
  induction ps generalizing i with
  | nil => exact absurd h (Nat.not_lt_zero _)
  | cons p ps ih =>
    have e : p6row (p :: ps) = p6cells p ++ p6row ps := rfl
    have hl : (p6cells p).length = 4 := rfl
    rw [e]
    cases i with
    | zero => rw [List.getElem?_append_left (by omega)]; simp
    | succ i =>
      rw [List.getElem?_append_right (by omega), hl, show (i + 1) * 4 + j - 4 = i * 4 + j by omega, ih i (by simpa using h)]
      rfl
theorem p6row_len (ps : List P6) : (p6row ps).length = ps.length * 4 := by
  induction ps with
  | nil => rfl
  | cons p ps ih =>
    have e : p6row (p :: ps) = p6cells p ++ p6row ps := rfl
    rw [e, List.length_append, ih]
    show 4 + ps.length * 4 = (ps.length + 1) * 4
    omega
/-- An owned row of particles, particle by particle. -/
theorem pts_of_row {w : World} {B t n : Nat} {A : Option Addr} {cp : Nat} {ps : List P6} (h : w.ownsRow B t 4 (.slice A n cp) n (p6row ps)) (hn : ps.length = n) : ∀ i (hi : i < ps.length), ∃ g, A = some ⟨g, 0, none⟩ ∧ B ≤ g ∧ g < w.heap.size ∧ Pt w g (i * 4) ps[i] := by
  intro i hi
  subst hn
  obtain ⟨g, cap, he, hB, hlt⟩ := h.form (by omega)
  injection he with e1 e2 e3
  subst e1
  have c := fun j u (hj : j < 4) (hu : (p6cells ps[i])[j]? = some u) => (by
    have e := h.cells (g := g) rfl (i * 4 + j) u (by rw [p6row_at ps i hi j hj]; exact hu)
    rw [Addr.add_lit, Nat.zero_add] at e
    exact e : w.cell? ⟨g, i * 4 + j, none⟩ = some u)
  exact ⟨g, rfl, hB, hlt, c 0 _ (by omega) rfl, c 1 _ (by omega) rfl, c 2 _ (by omega) rfl, c 3 _ (by omega) rfl⟩

set_option maxHeartbeats 8000000 in
set_option maxRecDepth 20000 in
theorem l05DrawOk_ok (g : Nat) (a : Option Addr) (n c K : Nat) (w : World) (h : Drawn w g a n c K) (hK : K ≤ 800) :
    Calls Tryd.prog 13 #[.pointer (some ⟨g, 0, none⟩)] w fun e w' => ∃ (W H : Nat) (ps : List P6) (A : Option Addr) (cp mg bk : Nat), (Sides W H ∧ H ≤ 6) ∧ ps.length ≤ 5 ∧ (∀ p ∈ ps, p.ok) ∧ mg < 4294967296 ∧ bk < 4294967296 ∧ e = .returned (.agg #[.int .i64 W, .int .i64 H, .slice A ps.length cp, .float .f32 mg, .float .f32 bk]) ∧ w'.ownsRow w.heap.size 60 4 (.slice A ps.length cp) ps.length (p6row ps) ∧ Drawn w' g a n c (K + 120) ∧ w.grownBy w' (some g) := by
  have lg := h.lt
  have P0 := keep (Has.made w 31 #[.int .i64 0, .int .i64 0, .slice none 0 0, .float .f32 0, .float .f32 0])
  have D0 := keep (h.alloc (.cells #[.int .i64 0, .int .i64 0, .slice none 0 0, .float .f32 0, .float .f32 0] 31))
  have G0 := keep (zgb_alloc (World.grownBy.refl w (some g)) (.cells #[.int .i64 0, .int .i64 0, .slice none 0 0, .float .f32 0, .float .f32 0] 31))
  have DG := keep (fun w1 h => l02DrawGrid_ok g a n c K w1 h (by omega))
  have PK := keep (fun m K w1 h hK h1 h2 => pick_ok m g a n c K w1 h hK h1 h2)
  have DP := keep (fun gg K N W H w1 h hK hN hgr hW hne => l02DrawParticles_ok g gg a n c K N W H w1 h hK hN hgr hW hne)
  clear h
  go_enter Tryd.func13, Tryd.ntmps13
  go_wp2_with fail
  refine (DG.out _ D0.out).mono ?_
  rintro e w1 ⟨W, H, hs, rfl, hd, hg⟩
  have HS := keep hs
  have P1 := keep (zhas_byG P0.out hg (by intro e; injection e with e; omega))
  have G1 := keep (zgb_trans G0.out hg)
  have z1 := P1.out.in_heap
  have D1 := keep (hd.alloc (.cells #[.int .i64 W, .int .i64 H] 27))
  have Q1 := keep (Has.made w1 27 #[.int .i64 W, .int .i64 H])
  have P2 := keep (P1.out.beside (.cells #[.int .i64 W, .int .i64 H] 27))
  have G2 := keep (zgb_alloc G1.out (.cells #[.int .i64 W, .int .i64 H] 27))
  have IS := keep (fun w c0 c1 => zIs W H HS.out.1 w1.heap.size w c0 c1)
  unfold gridV
  clear hd hg hs P0 D0 G0 DG P1 G1
  have q0 := Q1.out.cells 0
  have q1 := Q1.out.cells 1
  have uq := Q1.out.free
  go_wp2_with fail
  refine (IS.out _ q0 q1).mono ?_
  rintro e w2 ⟨rfl, rfl⟩
  go_wp2_with fail
  have D3 := keep ((D1.out.alloc (.cells #[] 60)).alloc (.cells #[.int .i64 W, .int .i64 H, .slice (some ⟨w1.heap.size + 1, 0, none⟩) 0 0, .float .f32 0, .float .f32 0] 31))
  have R3 := (Has.made (w1.alloc (.cells #[.int .i64 W, .int .i64 H] 27)) 60 #[]).beside (.cells #[.int .i64 W, .int .i64 H, .slice (some ⟨w1.heap.size + 1, 0, none⟩) 0 0, .float .f32 0, .float .f32 0] 31)
  have C3 := Has.made ((w1.alloc (.cells #[.int .i64 W, .int .i64 H] 27)).alloc (.cells #[] 60)) 31 #[.int .i64 W, .int .i64 H, .slice (some ⟨w1.heap.size + 1, 0, none⟩) 0 0, .float .f32 0, .float .f32 0]
  simp only [World.size_alloc] at R3 C3
  have R3 := keep R3
  have C3 := keep C3
  have Q3 := keep ((Q1.out.beside (.cells #[] 60)).beside (.cells #[.int .i64 W, .int .i64 H, .slice (some ⟨w1.heap.size + 1, 0, none⟩) 0 0, .float .f32 0, .float .f32 0] 31))
  have P3 := keep ((P2.out.beside (.cells #[] 60)).beside (.cells #[.int .i64 W, .int .i64 H, .slice (some ⟨w1.heap.size + 1, 0, none⟩) 0 0, .float .f32 0, .float .f32 0] 31))
  have G3 := keep (zgb_alloc (zgb_alloc G2.out (.cells #[] 60)) (.cells #[.int .i64 W, .int .i64 H, .slice (some ⟨w1.heap.size + 1, 0, none⟩) 0 0, .float .f32 0, .float .f32 0] 31))
  clear D1 Q1 P2 G2 IS q0 q1 uq
  have zg1 := G3.out.size
  refine (PK.out 6 _ _ D3.out (by omega) (by omega) (by omega)).mono ?_
  rintro e w4 ⟨N, hN, rfl, hd, hg⟩
  have D4 := keep hd
  have P4 := keep (zhas_byG P3.out hg (by intro e; injection e with e; omega))
  have Q4 := keep (zhas_byG Q3.out hg (by intro e; injection e with e; omega))
  have R4 := keep (zhas_byG R3.out hg (by intro e; injection e with e; omega))
  have C4 := keep (zhas_byG C3.out hg (by intro e; injection e with e; omega))
  have G4 := keep (zgb_trans G3.out hg)
  have z4 := C4.out.in_heap
  clear hd hg D3 P3 Q3 R3 C3 G3
  have q0 := Q4.out.cells 0
  go_wp2_with fail
  refine (DP.out w1.heap.size _ N W H _ D4.out (by omega) (by omega) q0 (by have := HS.out.1.1; omega) (by omega)).mono ?_
  rintro e w5 ⟨ps, A, cp, hln, hok, rfl, hown, hd, hg⟩
  have OK := keep hok
  have P5 := keep (zhas_byG P4.out hg (by intro e; injection e with e; omega))
  have R5 := keep (zhas_byG R4.out hg (by intro e; injection e with e; omega))
  have C5 := keep (zhas_byG C4.out hg (by intro e; injection e with e; omega))
  have G5 := keep (zgb_trans G4.out hg)
  have D5 := keep hd
  have z5 := hg.size
  have O5 := keep (zown_base (B' := w.heap.size + 1) hown (by omega))
  have AP0 : zApart (.slice (some ⟨w1.heap.size + 1, 0, none⟩) 0 0) (.slice A N cp) := .inr (fun e => by
    have h1 := (hown.lt (w1.heap.size + 1) e.symm).1
    omega)
  have AP1 : zApart (.slice A N cp) (.slice (some ⟨w1.heap.size + 1, 0, none⟩) 0 0) := .inr (fun e => by
    have h1 := (hown.lt (w1.heap.size + 1) e).1
    omega)
  have NE0 : (Value.slice A N cp).ownBlock ≠ some (w1.heap.size + 2) := fun e => by
    have h1 := (hown.lt (w1.heap.size + 2) e).1
    omega
  subst hln
  clear hok hown hd hg P4 R4 C4 G4 D4 Q4 q0 DP
  go_wp2_with fail
  go_loopw [21] (fun s wr => ∃ (i : Nat) (qs : List P6) (D : Option Addr) (d : Nat), i ≤ ps.length ∧ qs.length ≤ i ∧ s = .int .i64 i ∧ (Value.slice D qs.length d).ownBlock ≠ some (w1.heap.size + 2) ∧ Kept (∀ p ∈ qs, p.ok) ∧ Kept (Has wr (w1.heap.size + 2) 31 #[.int .i64 W, .int .i64 H, .slice D qs.length d, .float .f32 0, .float .f32 0]) ∧ Kept (wr.ownsRow (w.heap.size + 1) 60 4 (.slice D qs.length d) qs.length (p6row qs)) ∧ Kept (wr.ownsRow (w.heap.size + 1) 60 4 (.slice A ps.length cp) ps.length (p6row ps)) ∧ Kept (zApart (.slice D qs.length d) (.slice A ps.length cp)) ∧ Kept (zApart (.slice A ps.length cp) (.slice D qs.length d)) ∧ Kept (Drawn wr g a n c (K + 3 + 20 * ps.length)) ∧ Kept (Has wr w.heap.size 31 #[.int .i64 0, .int .i64 0, .slice none 0 0, .float .f32 0, .float .f32 0]) ∧ Kept (w.grownBy wr (some g))) (fun s _ => ps.length - (intOf s).toNat)
  case atStart => exact ⟨0, [], some ⟨w1.heap.size + 1, 0, none⟩, 0, Nat.zero_le _, Nat.le_refl _, rfl, by simp [Value.ownBlock], keep (fun p h => by cases h), C5, keep ⟨rfl, .inr ⟨w1.heap.size + 1, 0, #[], rfl, by omega, R5.out, Nat.le_refl _, by simp [maxLen], rfl, rfl⟩⟩, O5, keep AP0, keep AP1, keep (D5.out.mono (by omega)), P5, G5⟩
  case round =>
    clear C5 R5 O5 AP0 AP1 D5 P5 G5
    obtain ⟨i, qs, D, d, hi, hqi, rfl, hne, hqk, hc, ho, hl, ha1, ha2, hd, hP, hg⟩ := hrel
    by_cases hlt : i < ps.length
    · obtain ⟨gp, rfl, hB, hgl, hpt⟩ := pts_of_row hl.out rfl i hlt
      obtain ⟨i0, hi0, hz0, hz1, hz2⟩ := info_parts infoPart
      have HI := keep hi0
      have HZ0 := keep hz0
      have HZ1 := keep hz1
      have HZ2 := keep hz2
      clear hi0 hz0 hz1 hz2
      have PO := keep (OK.out _ (List.getElem_mem hlt))
      generalize ps[i] = p at *
      have LP := keep (l02Particle_at p.at'.1 p.at'.2 p.speed.1 p.speed.2 p.charge p.mass gp (i * 4) wr hpt.1 hpt.2.1 hpt.2.2.1 hpt.2.2.2)
      generalize validP p.at'.1 p.at'.2 p.speed.1 p.speed.2 p.charge p.mass = vb at LP
      go_wp2_with fail
      refine LP.out.mono ?_
      rintro e w6 ⟨rfl, m, hw6⟩
      have hb6 : Below wr.heap.size wr w6 := by rw [hw6]; exact Below.drewN _ _ _
      clear hw6 LP
      have zC := hc.out.in_heap
      have C6 := keep (hc.out.after hb6)
      have O6 := keep (owns_below ho.out hb6)
      have L6 := keep (owns_below hl.out hb6)
      have D6 := keep (hd.out.after hb6)
      have P6' := keep (hP.out.after hb6)
      have G6 := keep (zgb_below hg.out hb6 (by omega))
      have T6 := keep (hpt.after hb6)
      have z6 := hb6.size
      clear hc ho hl hd hP hg hpt hb6
      cases vb
      · go_wp2_with fail
        go_roundw
        case rel => exact ⟨i + 1, qs, D, d, by omega, by omega, by go_num, hne, hqk, C6, O6, L6, ha1, ha2, D6, P6', G6⟩
        case measure => simp [intOf]; omega
      · have bd := Below.drew (Below.refl w6.heap.size w6)
        have ba := Below.drew ((Below.refl w6.heap.size w6).alloc (Nat.le_refl _) (.cells #[.complex .f32 p.at'.1 p.at'.2, .complex .f32 p.speed.1 p.speed.2, .float .f32 p.charge, .float .f32 p.mass] 60))
        have c1 := (C6.out.after bd).cells
        have u1 := (C6.out.after bd).free
        have c2 := (C6.out.after ba).cells
        have u2 := (C6.out.after ba).free
        obtain ⟨k0, k1, k2, k3⟩ := T6.out.after bd
        obtain ⟨l0, l1, l2, l3⟩ := T6.out.after ba
        have OA := keep (owns_below O6.out ba)
        have LA := keep (owns_below L6.out ba)
        have CA := keep (C6.out.after ba)
        have DA := keep (D6.out.after ba)
        have PA := keep (P6'.out.after ba)
        have GA := keep (zgb_below G6.out ba (by omega))
        have NW := keep (p6new ((Has.made w6 60 #[.complex .f32 p.at'.1 p.at'.2, .complex .f32 p.speed.1 p.speed.2, .float .f32 p.charge, .float .f32 p.mass]).after (Below.drew (Below.refl _ _))))
        have ON : Kept (∀ u ∈ [Value.complex .f32 p.at'.1 p.at'.2, .complex .f32 p.speed.1 p.speed.2, .float .f32 p.charge, .float .f32 p.mass], u.oneCell' = true) := keep (fun u hu => by
          simp only [List.mem_cons, List.not_mem_nil, or_false] at hu
          rcases hu with rfl | rfl | rfl | rfl <;> rfl)
        have hql : qs.length ≤ 5 := by omega
        clear bd ba C6 O6 L6 D6 P6' G6 T6
        go_wp2_with fail
        go_region_law (first
          | (refine step_append_lies _ rfl (.tmp 29) (.tmp 34) 28 rfl (w.heap.size + 1) 60 i0 _ 4 24 Tryd.underlying28 HI.out HZ0.out HZ1.out HZ2.out rfl (by decide) (.slice D qs.length d) qs.length _ (by simp [Act.eval, Act.put]) OA.out ⟨w6.heap.size, 0, none⟩ 1 1 [.complex .f32 p.at'.1 p.at'.2, .complex .f32 p.speed.1 p.speed.2, .float .f32 p.charge, .float .f32 p.mass] (by simp [Act.eval, Act.put]) rfl NW.out ON.out (by decide) (by show qs.length + 1 ≤ 9223372036854775807; omega) (by omega) (by simp only [World.size_drew, World.size_alloc]; omega) _ rfl ?_
             intro g5 cap5 w7 hown5 hgrow5 hor5 hlt5
             have C7 := keep (zhas_byG CA.out hgrow5 hne)
             have c7 := C7.out.cells
             have u7 := C7.out.free))
        all_goals (
          have hL := OA.out.lt
          have bX : Below (w.heap.size + 1) _ w7 := (Below.refl (w.heap.size + 1) _).grown hgrow5 (by simp only [World.size_drew, World.size_alloc]; omega) (fun b e => (hL b e).1)
          have hzA : (w6.alloc (.cells #[.complex .f32 p.at'.1 p.at'.2, .complex .f32 p.speed.1 p.speed.2, .float .f32 p.charge, .float .f32 p.mass] 60)).drew.heap.size = w6.heap.size + 1 := by simp only [World.size_drew, World.size_alloc]
          have hg5 : g5 ≠ w1.heap.size + 2 := by
            rcases hor5 with h5 | h5
            · intro e; exact hne (by rw [h5, e])
            · rw [hzA] at h5; omega
          have C8 := keep (C7.out.written 2 (.slice (some ⟨g5, 0, none⟩) (qs.length + 1) cap5))
          have bS := (Below.refl (w.heap.size + 1) w7).setCell (p := ⟨w1.heap.size + 2, 2, none⟩) (by show w.heap.size + 1 ≤ w1.heap.size + 2; omega) (.slice (some ⟨g5, 0, none⟩) (qs.length + 1) cap5)
          have O8 := keep (hown5.kept (zgb_row w7 (w1.heap.size + 2) 2 (.slice (some ⟨g5, 0, none⟩) (qs.length + 1) cap5)) (.inr (fun e => hg5 (by injection e with e))))
          have L8 := keep ((LA.out.kept hgrow5 ha2.out).kept (zgb_row w7 (w1.heap.size + 2) 2 (.slice (some ⟨g5, 0, none⟩) (qs.length + 1) cap5)) (.inr NE0))
          have AP := keep (zApart.step (v1' := .slice (some ⟨g5, 0, none⟩) (qs.length + 1) cap5) LA.out ha1.out ha2.out (hor5.imp (fun h5 => h5.symm) (fun h5 => by rw [h5]; rfl)))
          have D8 := keep ((DA.out.later bX (by omega)).later bS (by omega))
          have P8 := keep ((PA.out.later bX (by omega)).later bS (by omega))
          have G8 := keep (zgb_below (zgb_below GA.out bX (by omega)) bS (by omega))
          have OKQ := keep (show ∀ x ∈ qs ++ [p], x.ok from fun x hx => by
            rcases List.mem_append.1 hx with h1 | h1
            · exact hqk.out x h1
            · rw [List.mem_singleton.1 h1]; exact PO.out)
          have NE8 : (Value.slice (some ⟨g5, 0, none⟩) (qs.length + 1) cap5).ownBlock ≠ some (w1.heap.size + 2) := fun e => hg5 (by injection e with e)
          clear hL bX hzA bS C7 c7 u7 OA LA CA DA PA GA hown5 hgrow5 hor5 hne ha1 ha2 NW ON c1 u1 c2 u2 k0 k1 k2 k3 l0 l1 l2 l3 hg5 hlt5
          go_wp2_with fail
          go_roundw)
        all_goals first
          | exact ⟨i + 1, qs ++ [p], some ⟨g5, 0, none⟩, cap5, by omega, by rw [List.length_append]; show qs.length + 1 ≤ i + 1; omega, by go_num, by rw [List.length_append]; exact NE8, OKQ, keep (by rw [List.length_append]; exact C8.out), keep (by
              have e := O8.out
              rw [p6row_append, List.length_append]
              exact e), L8, keep (by rw [List.length_append]; exact AP.out.1), keep (by rw [List.length_append]; exact AP.out.2), D8, P8, G8⟩
          | (simp [intOf]; omega)
    · obtain rfl : i = ps.length := by omega
      clear NE0 OK hl ha1 ha2
      go_wp2_with fail
      refine (PK.out 9 _ _ hd.out (by omega) (by omega) (by omega)).mono ?_
      rintro e w6 ⟨r1, h1, rfl, hd6, hg6⟩
      have f1 := zrun (div4 ((r1 : Int) - 4) (by omega) (by omega))
      have X1 := keep (wd32 2 ((r1 : Int) - 4))
      have v1 : IntKind.i64.wrap ((r1 : Int) - 4) = (r1 : Int) - 4 := IntWalk.i64_in _ ⟨by omega, by omega⟩
      generalize wd single 2 ((r1 : Int) - 4) = mg at *
      have c6 := zhas_byG hc.out hg6 (by intro e; injection e with e; omega)
      have k6 := c6.cells
      have u6 := c6.free
      have C6 := keep (c6.written 3 (.float .f32 mg))
      have lC := c6.in_heap
      have bs := (Below.refl (w.heap.size + 1) w6).setCell (p := ⟨w1.heap.size + 2, 3, none⟩) (by show w.heap.size + 1 ≤ w1.heap.size + 2; omega) (.float .f32 mg)
      have O6 := keep ((zown_byG ho.out hg6 (by omega)).kept (zgb_row w6 (w1.heap.size + 2) 3 (.float .f32 mg)) (.inr hne))
      have D6 := keep (hd6.later bs (by omega))
      have P6' := keep ((zhas_byG hP.out hg6 (by intro e; injection e with e; omega)).later bs (by omega))
      have G6 := keep (zgb_below (zgb_trans hg.out hg6) bs (by omega))
      clear hd6 hg6 c6 bs hc ho hd hP hg
      go_wp2_with fail
      clear f1 v1 k6 u6
      generalize w6.setCell ⟨w1.heap.size + 2, 3, none⟩ (.float .f32 mg) = ws at *
      refine (PK.out 5 _ _ D6.out (by omega) (by omega) (by omega)).mono ?_
      rintro e w7 ⟨r2, h2, rfl, hd7, hg7⟩
      have f2 := zrun (div8 ((r2 : Int) - 2) (by omega) (by omega))
      have X2 := keep (wd32 3 ((r2 : Int) - 2))
      have v2 : IntKind.i64.wrap ((r2 : Int) - 2) = (r2 : Int) - 2 := IntWalk.i64_in _ ⟨by omega, by omega⟩
      generalize wd single 3 ((r2 : Int) - 2) = bk at *
      have c7 := zhas_byG C6.out hg7 (by intro e; injection e with e; omega)
      have k7 := c7.cells
      have u7 := c7.free
      have p7 := zhas_byG P6'.out hg7 (by intro e; injection e with e; omega)
      have j7 := p7.cells
      have t7 := p7.free
      have bs := (Below.refl (w.heap.size + 1) w7).setCell (p := ⟨w1.heap.size + 2, 4, none⟩) (by show w.heap.size + 1 ≤ w1.heap.size + 2; omega) (.float .f32 bk)
      have O7 := keep ((zown_byG O6.out hg7 (by omega)).kept (zgb_row w7 (w1.heap.size + 2) 4 (.float .f32 bk)) (.inr hne))
      have D7 := keep (hd7.later bs (by omega))
      have G7 := keep (zgb_below (zgb_trans G6.out hg7) bs (by omega))
      have zP := p7.in_heap
      clear hd7 hg7 bs O6 D6 P6' G6 C6
      go_wp2_with fail
      have q := (((((p7.elsewhere (p := ⟨w1.heap.size + 2, 4, none⟩) (by show w.heap.size ≠ w1.heap.size + 2; omega) (.float .f32 bk)).written 0 (.int .i64 W)).written 1 (.int .i64 H)).written 2 (.slice D qs.length d)).written 3 (.float .f32 mg)).written 4 (.float .f32 bk)
      have qc := q.cells
      have oo := zown_low (o := 4) (zown_low (o := 3) (zown_low (o := 2) (zown_low (o := 1) (zown_low (o := 0) O7.out (g := w.heap.size) (by omega) (.int .i64 W)) (g := w.heap.size) (by omega) (.int .i64 H)) (g := w.heap.size) (by omega) (.slice D qs.length d)) (g := w.heap.size) (by omega) (.float .f32 mg)) (g := w.heap.size) (by omega) (.float .f32 bk)
      have bb := fun (w' : World) => (((((Below.refl w.heap.size w').setCell (p := ⟨w.heap.size, 0, none⟩) (Nat.le_refl _) (.int .i64 W)).setCell (p := ⟨w.heap.size, 1, none⟩) (Nat.le_refl _) (.int .i64 H)).setCell (p := ⟨w.heap.size, 2, none⟩) (Nat.le_refl _) (.slice D qs.length d)).setCell (p := ⟨w.heap.size, 3, none⟩) (Nat.le_refl _) (.float .f32 mg)).setCell (p := ⟨w.heap.size, 4, none⟩) (Nat.le_refl _) (.float .f32 bk)
      exact bodyPost_ret (v := .agg #[.int .i64 W, .int .i64 H, .slice D qs.length d, .float .f32 mg, .float .f32 bk]) (by simp [results, Tryd.results13, go_sem, qc]) rfl ⟨W, H, qs, D, d, mg, bk, HS.out, by omega, hqk.out, X1.out, X2.out, rfl, zown_base oo (by omega), (D7.out.later (bb _) lg).mono (by omega), zgb_below G7.out (bb _) (Nat.le_refl _)⟩
end Go.Proofs.YtldnldgndjbhfaaDoor
namespace Go.Proofs.YtldnldgndjbhfaaDoor
open Go.RowKit Go.Sort Ieee
set_option linter.unusedSimpArgs false
set_option linter.unusedVariables false

set_option maxHeartbeats 1000000 in
/-- A choice among m, where m may be 1. -/
theorem pick_low (m : Nat) (g : Nat) (a : Option Addr) (n c K : Nat) (w : World) (h : Drawn w g a n c K) (hK : K ≤ 1000000) (hm1 : 1 ≤ m) (hm : m ≤ 200) :
    Calls Tryd.prog 11 #[.pointer (some ⟨g, 0, none⟩), .int .i64 m] w fun e w' => ∃ r : Nat, r < m ∧ e = .returned (.int .i64 r) ∧ Drawn w' g a n c (K + 1) ∧ w.grownBy w' (some g) := by
  rcases Nat.lt_or_ge 1 m with h1 | h1
  · exact pick_ok m g a n c K w h hK h1 hm
  · obtain rfl : m = 1 := by omega
    have HD := keep (h.mono (show K ≤ K + 1 by omega))
    clear h
    go_enter Tryd.func11, Tryd.ntmps11
    go_wp2_with fail
    go_ret
    exact ⟨0, by omega, rfl, HD.out, World.grownBy.refl _ _⟩

set_option maxHeartbeats 1000000 in
/-- One of some texts. -/
theorem text_ok (g b cp k : Nat) (L : List ByteArray) (t : TypeId) (a : Option Addr) (n c K : Nat) (w : World) (h : Drawn w g a n c K) (hK : K ≤ 1000000) (hk : L.length = k) (hk2 : 2 ≤ k) (hk3 : k ≤ 200) (hb : b ≠ g) (hL : ∀ s ∈ L, Pl 60 s) (hc : Has w b t (L.map Value.string).toArray) :
    Calls Tryd.prog 21 #[.pointer (some ⟨g, 0, none⟩), .slice (some ⟨b, 0, none⟩) k cp] w fun e w' => ∃ s, Pl 60 s ∧ e = .returned (.string s) ∧ Drawn w' g a n c (K + 1) ∧ w.grownBy w' (some g) := by
  have H := keep (pick_ok k g a n c K w h hK hk2 hk3)
  clear h
  go_enter Tryd.func21, Tryd.ntmps21
  go_wp2_with fail
  refine H.out.mono ?_
  rintro e w' ⟨r, hr, rfl, hd, hg⟩
  have hcell : w'.cell? ⟨b, r, none⟩ = some (.string (L[r]'(by omega))) := by
    have e := (zhas_byG hc hg (fun e => hb (Option.some.inj e).symm)).cells r
    rw [e]
    simp [show r < L.length by omega]
  have PL := keep (hL _ (List.getElem_mem (show r < L.length by omega)))
  generalize (L[r]'(by omega)) = s at *
  have HD := keep hd
  have HG := keep hg
  have hr0 : (0 : Int) ≤ (r : Int) := by omega
  have hrk : (r : Int) < (k : Int) := by omega
  clear hd hg hc hL
  go_wp2_with fail
  go_ret
  exact ⟨s, PL.out, rfl, HD.out, HG.out⟩

set_option maxHeartbeats 4000000 in
set_option maxRecDepth 20000 in
theorem l11DrawParticle_ok (g cb : Nat) (a : Option Addr) (n c K W H cp mg bk N : Nat) (A : Option Addr) (w : World) (h : Drawn w g a n c K) (hK : K ≤ 1000) (hc : Has w cb 31 #[.int .i64 W, .int .i64 H, .slice A N cp, .float .f32 mg, .float .f32 bk]) (hW : 4 ≤ W ∧ W ≤ 7) (hne : g ≠ cb) :
    Calls Tryd.prog 23 #[.pointer (some ⟨g, 0, none⟩), .pointer (some ⟨cb, 0, none⟩)] w fun e w' => ∃ p : P6, p.ok ∧ e = .returned (.agg #[.complex .f32 p.at'.1 p.at'.2, .complex .f32 p.speed.1 p.speed.2, .float .f32 p.charge, .float .f32 p.mass]) ∧ Drawn w' g a n c (K + 20) ∧ w.grownBy w' (some g) := by
  have lg := h.lt
  have lc := hc.in_heap
  have P0 := keep (Has.made w 60 #[.complex .f32 0 0, .complex .f32 0 0, .float .f32 0, .float .f32 0])
  have D0 := keep (h.alloc (.cells #[.complex .f32 0 0, .complex .f32 0 0, .float .f32 0, .float .f32 0] 60))
  have G0 := keep (zgb_alloc (World.grownBy.refl w (some g)) (.cells #[.complex .f32 0 0, .complex .f32 0 0, .float .f32 0, .float .f32 0] 60))
  have C0 := (hc.beside (.cells #[.complex .f32 0 0, .complex .f32 0 0, .float .f32 0, .float .f32 0] 60)).cells 0
  have DP := keep (l02DrawParticles_ok g cb a n c K 1 W H _ D0.out hK (by omega) C0 hW hne)
  clear h hc D0 C0
  go_enter Tryd.func23, Tryd.ntmps23
  go_wp2_with fail
  refine DP.out.mono ?_
  rintro e w1 ⟨ps, A1, cp1, hln, hok, rfl, hown, hd, hg⟩
  obtain ⟨g1, rfl, hB, hgl, hpt⟩ := pts_of_row hown hln 0 (by omega)
  have PO := keep (hok _ (List.getElem_mem (show 0 < ps.length by omega)))
  generalize (ps[0]'(by omega)) = p at *
  have P1 := zhas_byG P0.out hg (by intro e; injection e with e; omega)
  have zP := P1.in_heap
  have j1 := P1.cells
  have u1 := P1.free
  have D1 := keep hd
  have G1 := keep (zgb_trans G0.out hg)
  obtain ⟨k0, k1, k2, k3⟩ := hpt
  rw [Nat.zero_mul] at k0 k1 k2 k3
  rw [World.size_alloc] at hB
  clear hown hd hg hok
  go_wp2_with fail
  have q := (((P1.written 0 (.complex .f32 p.at'.1 p.at'.2)).written 1 (.complex .f32 p.speed.1 p.speed.2)).written 2 (.float .f32 p.charge)).written 3 (.float .f32 p.mass)
  have qc := q.cells
  have bb := ((((Below.refl w.heap.size w1).setCell (p := ⟨w.heap.size, 0, none⟩) (Nat.le_refl _) (.complex .f32 p.at'.1 p.at'.2)).setCell (p := ⟨w.heap.size, 1, none⟩) (Nat.le_refl _) (.complex .f32 p.speed.1 p.speed.2)).setCell (p := ⟨w.heap.size, 2, none⟩) (Nat.le_refl _) (.float .f32 p.charge)).setCell (p := ⟨w.heap.size, 3, none⟩) (Nat.le_refl _) (.float .f32 p.mass)
  exact bodyPost_ret (v := .agg #[.complex .f32 p.at'.1 p.at'.2, .complex .f32 p.speed.1 p.speed.2, .float .f32 p.charge, .float .f32 p.mass]) (by simp [results, Tryd.results23, go_sem, qc]) rfl ⟨p, PO.out, rfl, (D1.out.later bb lg).mono (by omega), zgb_below G1.out bb (Nat.le_refl _)⟩
end Go.Proofs.YtldnldgndjbhfaaDoor
namespace Go.Proofs.YtldnldgndjbhfaaDoor
open Go.RowKit Go.Sort Ieee
set_option linter.unusedSimpArgs false
set_option linter.unusedVariables false

def texts0 : List ByteArray := [⟨#[]⟩, ⟨#[119, 104, 97, 116]⟩, ⟨#[99, 108, 111, 117, 100, 32, 110, 111, 110, 101]⟩, ⟨#[99, 108, 111, 117, 100, 32, 52, 44, 52, 59, 48, 48, 48, 48, 48, 48, 48, 48, 44, 48, 48, 48, 48, 48, 48, 48, 48, 59]⟩, ⟨#[103, 114, 105, 100, 32, 51, 32, 52]⟩, ⟨#[103, 114, 105, 100, 32, 120, 32, 52]⟩, ⟨#[97, 100, 100, 32, 110, 111, 110, 101]⟩, ⟨#[100, 114, 111, 112, 32, 45, 49]⟩, ⟨#[109, 97, 103, 110, 101, 116, 32, 110, 111, 110, 101]⟩, ⟨#[98, 97, 99, 107, 32, 55, 102, 99, 48, 48, 48, 48, 48]⟩, ⟨#[114, 117, 110, 32, 51, 102, 56, 48, 48, 48, 48, 48, 32, 54, 49, 32, 49]⟩, ⟨#[114, 117, 110, 32, 120, 32, 49, 32, 49]⟩, ⟨#[100, 114, 105, 102, 116, 32, 55, 102, 56, 48, 48, 48, 48, 48]⟩, ⟨#[101, 110, 101, 114, 103, 121, 32, 54, 49]⟩, ⟨#[102, 111, 114, 99, 101, 32, 57, 57, 32, 49]⟩, ⟨#[99, 104, 97, 114, 103, 101, 32, 49, 54]⟩, ⟨#[115, 116, 114, 101, 97, 109, 115, 32, 48, 32, 51, 102, 56, 48, 48, 48, 48, 48]⟩, ⟨#[99, 111, 117, 110, 116, 32, 110, 111, 119]⟩]
theorem texts0_pl : ∀ s ∈ texts0, Pl 60 s := by
  intro s hs
  simp only [texts0, List.mem_cons, List.not_mem_nil, or_false] at hs
  rcases hs with rfl | rfl | rfl | rfl | rfl | rfl | rfl | rfl | rfl | rfl | rfl | rfl | rfl | rfl | rfl | rfl | rfl | rfl <;> exact ⟨by decide, by decide⟩
def texts4 : List ByteArray := [⟨#[109, 97, 103, 110, 101, 116, 32]⟩, ⟨#[98, 97, 99, 107, 32]⟩, ⟨#[100, 114, 105, 102, 116, 32]⟩]
theorem texts4_pl : ∀ s ∈ texts4, Pl 60 s := by
  intro s hs
  simp only [texts4, List.mem_cons, List.not_mem_nil, or_false] at hs
  rcases hs with rfl | rfl | rfl <;> exact ⟨by decide, by decide⟩
def texts8 : List ByteArray := [⟨#[115, 104, 111, 119]⟩, ⟨#[116, 117, 114, 110]⟩, ⟨#[115, 111, 114, 116]⟩, ⟨#[107, 105, 110, 101, 116, 105, 99]⟩, ⟨#[116, 111, 116, 97, 108]⟩, ⟨#[109, 111, 109, 101, 110, 116, 117, 109]⟩, ⟨#[111, 114, 100, 101, 114]⟩, ⟨#[99, 101, 108, 108, 115]⟩, ⟨#[99, 111, 117, 110, 116]⟩]
theorem texts8_pl : ∀ s ∈ texts8, Pl 60 s := by
  intro s hs
  simp only [texts8, List.mem_cons, List.not_mem_nil, or_false] at hs
  rcases hs with rfl | rfl | rfl | rfl | rfl | rfl | rfl | rfl | rfl <;> exact ⟨by decide, by decide⟩

set_option maxHeartbeats 8000000 in
set_option maxRecDepth 20000 in
theorem l11DrawLine_ok (g cb : Nat) (a : Option Addr) (n c K W H cp mg bk N : Nat) (A : Option Addr) (w : World) (h : Drawn w g a n c K) (hK : K ≤ 600) (hc : Has w cb 31 #[.int .i64 W, .int .i64 H, .slice A N cp, .float .f32 mg, .float .f32 bk]) (hW : 4 ≤ W ∧ W ≤ 7) (hN : N ≤ 5) (hne : g ≠ cb) :
    Calls Tryd.prog 12 #[.pointer (some ⟨g, 0, none⟩), .pointer (some ⟨cb, 0, none⟩)] w fun e w' => ∃ s, Pl 500 s ∧ e = .returned (.string s) ∧ Drawn w' g a n c (K + 130) ∧ w.grownBy w' (some g) := by
  have lg := h.lt
  have lc := hc.in_heap
  have HC := keep (fun (w' : World) (hg : w.grownBy w' (some g)) => zhas_byG hc hg (fun e => hne (Option.some.inj e)))
  have PK := keep (fun m K w1 h hK h1 h2 => pick_low m g a n c K w1 h hK h1 h2)
  have ON := keep (fun m K w1 h hK h1 h2 => one_any m g a n c K w1 h hK h1 h2)
  have TX := keep (fun b cp k L t K w1 h hK hk hk2 hk3 hb hL hc => text_ok g b cp k L t a n c K w1 h hK hk hk2 hk3 hb hL hc)
  have DN := keep (fun n h w => Dec_ok n h w)
  have HX := keep (fun b hb w => Hex_ok b hb w)
  have h0 := keep h
  have c2 := hc.cells 2
  have u2 := hc.free 2
  clear h hc
  go_enter Tryd.func12, Tryd.ntmps12
  go_wp2_with fail
  refine (PK.out (N + 1) K w h0.out (by omega) (by omega) (by omega)).mono ?_
  rintro e w1 ⟨r1, hr1, rfl, hd, hg⟩
  have D1 := keep hd
  have G1 := keep hg
  clear hd hg h0 c2 u2
  go_wp2_with fail
  refine (DN.out r1 (by omega) w1).mono ?_
  rintro e w2 ⟨rfl, hb⟩
  have pn := keep (decW_pl r1 (by omega))
  generalize decW r1 = sn at *
  have D2 := keep (D1.out.after hb)
  have G2 := keep (zgb_below G1.out hb (by have := G1.out.size; omega))
  clear hb D1 G1
  go_wp2_with fail
  refine (PK.out 4 _ w2 D2.out (by omega) (by omega) (by omega)).mono ?_
  rintro e w3 ⟨r2, hr2, rfl, hd, hg⟩
  have D3 := keep hd
  have G3 := keep (zgb_trans G2.out hg)
  clear hd hg D2 G2
  go_wp2_with fail
  refine (DN.out r2 (by omega) w3).mono ?_
  rintro e w4 ⟨rfl, hb⟩
  have pr := keep (decW_pl r2 (by omega))
  generalize decW r2 = sr at *
  have D4 := keep (D3.out.after hb)
  have G4 := keep (zgb_below G3.out hb (by have := G3.out.size; omega))
  clear hb D3 G3
  go_wp2_with fail
  refine (PK.out 9 _ w4 D4.out (by omega) (by omega) (by omega)).mono ?_
  rintro e w5 ⟨r3, hr3, rfl, hd, hg⟩
  have D5 := keep hd
  have G5 := keep (zgb_trans G4.out hg)
  have f1 := zrun (div8 (r3 : Int) (by omega) (by omega))
  have X1 := keep (wd32 3 (r3 : Int))
  generalize wd single 3 (r3 : Int) = wx at *
  clear hd hg D4 G4
  go_wp2_with fail
  refine (HX.out wx X1.out w5).mono ?_
  rintro e w6 ⟨rfl, hb⟩
  have px := keep (hexW_pl wx X1.out)
  generalize hexW wx = sx at *
  have D6 := keep (D5.out.after hb)
  have G6 := keep (zgb_below G5.out hb (by have := G5.out.size; omega))
  clear hb D5 G5 f1
  go_wp2_with fail
  refine (PK.out 9 _ w6 D6.out (by omega) (by omega) (by omega)).mono ?_
  rintro e w7 ⟨k, hk, rfl, hd, hg⟩
  have D7 := keep hd
  have G7 := keep (zgb_trans G6.out hg)
  have z7 := G7.out.size
  clear hd hg D6 G6 hr1 hr2 hr3
  have zn := pn.out.1
  have zr := pr.out.1
  have zx := px.out.1
  obtain rfl | rfl | rfl | rfl | rfl | rfl | rfl | rfl | rfl : k = 0 ∨ k = 1 ∨ k = 2 ∨ k = 3 ∨ k = 4 ∨ k = 5 ∨ k = 6 ∨ k = 7 ∨ k = 8 := by omega
  · have B8 := keep (show Has (w7.alloc (.cells #[.string ⟨#[]⟩, .string ⟨#[119, 104, 97, 116]⟩, .string ⟨#[99, 108, 111, 117, 100, 32, 110, 111, 110, 101]⟩, .string ⟨#[99, 108, 111, 117, 100, 32, 52, 44, 52, 59, 48, 48, 48, 48, 48, 48, 48, 48, 44, 48, 48, 48, 48, 48, 48, 48, 48, 59]⟩, .string ⟨#[103, 114, 105, 100, 32, 51, 32, 52]⟩, .string ⟨#[103, 114, 105, 100, 32, 120, 32, 52]⟩, .string ⟨#[97, 100, 100, 32, 110, 111, 110, 101]⟩, .string ⟨#[100, 114, 111, 112, 32, 45, 49]⟩, .string ⟨#[109, 97, 103, 110, 101, 116, 32, 110, 111, 110, 101]⟩, .string ⟨#[98, 97, 99, 107, 32, 55, 102, 99, 48, 48, 48, 48, 48]⟩, .string ⟨#[114, 117, 110, 32, 51, 102, 56, 48, 48, 48, 48, 48, 32, 54, 49, 32, 49]⟩, .string ⟨#[114, 117, 110, 32, 120, 32, 49, 32, 49]⟩, .string ⟨#[100, 114, 105, 102, 116, 32, 55, 102, 56, 48, 48, 48, 48, 48]⟩, .string ⟨#[101, 110, 101, 114, 103, 121, 32, 54, 49]⟩, .string ⟨#[102, 111, 114, 99, 101, 32, 57, 57, 32, 49]⟩, .string ⟨#[99, 104, 97, 114, 103, 101, 32, 49, 54]⟩, .string ⟨#[115, 116, 114, 101, 97, 109, 115, 32, 48, 32, 51, 102, 56, 48, 48, 48, 48, 48]⟩, .string ⟨#[99, 111, 117, 110, 116, 32, 110, 111, 119]⟩] 9)) w7.heap.size 9 ((texts0).map Value.string).toArray from Has.made w7 _ _)
    have D8 := keep (D7.out.alloc (.cells #[.string ⟨#[]⟩, .string ⟨#[119, 104, 97, 116]⟩, .string ⟨#[99, 108, 111, 117, 100, 32, 110, 111, 110, 101]⟩, .string ⟨#[99, 108, 111, 117, 100, 32, 52, 44, 52, 59, 48, 48, 48, 48, 48, 48, 48, 48, 44, 48, 48, 48, 48, 48, 48, 48, 48, 59]⟩, .string ⟨#[103, 114, 105, 100, 32, 51, 32, 52]⟩, .string ⟨#[103, 114, 105, 100, 32, 120, 32, 52]⟩, .string ⟨#[97, 100, 100, 32, 110, 111, 110, 101]⟩, .string ⟨#[100, 114, 111, 112, 32, 45, 49]⟩, .string ⟨#[109, 97, 103, 110, 101, 116, 32, 110, 111, 110, 101]⟩, .string ⟨#[98, 97, 99, 107, 32, 55, 102, 99, 48, 48, 48, 48, 48]⟩, .string ⟨#[114, 117, 110, 32, 51, 102, 56, 48, 48, 48, 48, 48, 32, 54, 49, 32, 49]⟩, .string ⟨#[114, 117, 110, 32, 120, 32, 49, 32, 49]⟩, .string ⟨#[100, 114, 105, 102, 116, 32, 55, 102, 56, 48, 48, 48, 48, 48]⟩, .string ⟨#[101, 110, 101, 114, 103, 121, 32, 54, 49]⟩, .string ⟨#[102, 111, 114, 99, 101, 32, 57, 57, 32, 49]⟩, .string ⟨#[99, 104, 97, 114, 103, 101, 32, 49, 54]⟩, .string ⟨#[115, 116, 114, 101, 97, 109, 115, 32, 48, 32, 51, 102, 56, 48, 48, 48, 48, 48]⟩, .string ⟨#[99, 111, 117, 110, 116, 32, 110, 111, 119]⟩] 9))
    have G8 := keep (zgb_alloc G7.out (.cells #[.string ⟨#[]⟩, .string ⟨#[119, 104, 97, 116]⟩, .string ⟨#[99, 108, 111, 117, 100, 32, 110, 111, 110, 101]⟩, .string ⟨#[99, 108, 111, 117, 100, 32, 52, 44, 52, 59, 48, 48, 48, 48, 48, 48, 48, 48, 44, 48, 48, 48, 48, 48, 48, 48, 48, 59]⟩, .string ⟨#[103, 114, 105, 100, 32, 51, 32, 52]⟩, .string ⟨#[103, 114, 105, 100, 32, 120, 32, 52]⟩, .string ⟨#[97, 100, 100, 32, 110, 111, 110, 101]⟩, .string ⟨#[100, 114, 111, 112, 32, 45, 49]⟩, .string ⟨#[109, 97, 103, 110, 101, 116, 32, 110, 111, 110, 101]⟩, .string ⟨#[98, 97, 99, 107, 32, 55, 102, 99, 48, 48, 48, 48, 48]⟩, .string ⟨#[114, 117, 110, 32, 51, 102, 56, 48, 48, 48, 48, 48, 32, 54, 49, 32, 49]⟩, .string ⟨#[114, 117, 110, 32, 120, 32, 49, 32, 49]⟩, .string ⟨#[100, 114, 105, 102, 116, 32, 55, 102, 56, 48, 48, 48, 48, 48]⟩, .string ⟨#[101, 110, 101, 114, 103, 121, 32, 54, 49]⟩, .string ⟨#[102, 111, 114, 99, 101, 32, 57, 57, 32, 49]⟩, .string ⟨#[99, 104, 97, 114, 103, 101, 32, 49, 54]⟩, .string ⟨#[115, 116, 114, 101, 97, 109, 115, 32, 48, 32, 51, 102, 56, 48, 48, 48, 48, 48]⟩, .string ⟨#[99, 111, 117, 110, 116, 32, 110, 111, 119]⟩] 9))
    clear D7 G7
    go_wp2_with fail
    refine (TX.out w7.heap.size _ 18 texts0 _ _ _ D8.out (by omega) rfl (by omega) (by omega) (by omega) texts0_pl B8.out).mono ?_
    rintro e w8 ⟨s, ps, rfl, hd, hg⟩
    have D9 := keep hd
    have G9 := keep (zgb_trans G8.out hg)
    have zs := ps.1
    clear hd hg D8 G8 B8
    go_wp2_with fail
    go_ret
    exact ⟨s, ps.mono (by omega), rfl, D9.out.mono (by omega), G9.out⟩
  · go_wp2_with fail
    refine (l05DrawOk_ok g a n c _ w7 D7.out (by omega)).mono ?_
    rintro e w8 ⟨W2, H2, ps, A2, cp2, mg2, bk2, hs, hl, hok, hm, hb, rfl, hown, hd, hg⟩
    have D8 := keep (hd.alloc (.cells #[.int .i64 W2, .int .i64 H2, .slice A2 ps.length cp2, .float .f32 mg2, .float .f32 bk2] 31))
    have G8 := keep (zgb_alloc (zgb_trans G7.out hg) (.cells #[.int .i64 W2, .int .i64 H2, .slice A2 ps.length cp2, .float .f32 mg2, .float .f32 bk2] 31))
    have B8 := keep (Has.made w8 31 #[.int .i64 W2, .int .i64 H2, .slice A2 ps.length cp2, .float .f32 mg2, .float .f32 bk2])
    have PT := keep (pts_of_row (hown.alloc (.cells #[.int .i64 W2, .int .i64 H2, .slice A2 ps.length cp2, .float .f32 mg2, .float .f32 bk2] 31)) rfl)
    have LT := keep (l11Text_any w8.heap.size cp2 W2 H2 mg2 bk2 A2 ps _ (by have := hs.1.1; omega) (by have := hs.1.2; omega) hm hb (by omega) hok B8.out (fun i hi => by
      obtain ⟨g', h1, _, _, h2⟩ := PT.out i hi
      exact ⟨g', h1, h2⟩))
    clear hown hd hg D7 G7 hok
    have z8 := G8.out.size
    go_wp2_with fail
    refine LT.out.mono ?_
    rintro e w9 ⟨s, ps9, rfl, hb⟩
    have D9 := keep (D8.out.after hb)
    have G9 := keep (zgb_below G8.out hb z8)
    have P1 := keep (((show Pl 6 (⟨#[99, 108, 111, 117, 100, 32]⟩ : ByteArray) from ⟨Nat.le_refl _, by decide⟩)).app ps9)
    have zs := ps9.1
    clear hb D8 G8 B8 LT PT
    go_wp2_with fail
    go_ret
    exact ⟨_, P1.out.mono (by omega), rfl, D9.out.mono (by omega), G9.out⟩
  · have C7 := keep (HC.out w7 G7.out)
    go_wp2_with fail
    refine (l11DrawParticle_ok g cb a n c _ W H cp mg bk N A w7 D7.out (by omega) C7.out hW hne).mono ?_
    rintro e w8 ⟨p, hp, rfl, hd, hg⟩
    have D8 := keep (hd.alloc (.cells #[.complex .f32 p.at'.1 p.at'.2, .complex .f32 p.speed.1 p.speed.2, .float .f32 p.charge, .float .f32 p.mass] 60))
    have G8 := keep (zgb_alloc (zgb_trans G7.out hg) (.cells #[.complex .f32 p.at'.1 p.at'.2, .complex .f32 p.speed.1 p.speed.2, .float .f32 p.charge, .float .f32 p.mass] 60))
    have B8 := keep (Has.made w8 60 #[.complex .f32 p.at'.1 p.at'.2, .complex .f32 p.speed.1 p.speed.2, .float .f32 p.charge, .float .f32 p.mass])
    have LT := keep (l11Particle_any w8.heap.size 0 p _ hp ⟨B8.out.cells 0, B8.out.cells 1, B8.out.cells 2, B8.out.cells 3⟩)
    have pp := keep (ptxt_pl p hp)
    generalize ptxt p = sp at *
    clear hd hg D7 G7 C7
    have z8 := G8.out.size
    go_wp2_with fail
    refine LT.out.mono ?_
    rintro e w9 ⟨rfl, hb⟩
    have D9 := keep (D8.out.after hb)
    have G9 := keep (zgb_below G8.out hb z8)
    have P1 := keep (((show Pl 4 (⟨#[97, 100, 100, 32]⟩ : ByteArray) from ⟨Nat.le_refl _, by decide⟩)).app pp.out)
    have zs := pp.out.1
    clear hb D8 G8 B8 LT
    go_wp2_with fail
    go_ret
    exact ⟨_, P1.out.mono (by omega), rfl, D9.out.mono (by omega), G9.out⟩
  · have P1 := keep ((show Pl 4 (⟨#[114, 117, 110, 32]⟩ : ByteArray) from ⟨Nat.le_refl _, by decide⟩).app px.out)
    have P2 := keep (P1.out.app (show Pl 1 (⟨#[32]⟩ : ByteArray) from ⟨Nat.le_refl _, by decide⟩))
    have P3 := keep (P2.out.app pr.out)
    have P4 := keep (P3.out.app (show Pl 1 (⟨#[32]⟩ : ByteArray) from ⟨Nat.le_refl _, by decide⟩))
    have z1 := P1.out.1
    have z2 := P2.out.1
    have z3 := P3.out.1
    have z4 := P4.out.1
    go_wp2_with fail
    refine (PK.out 3 _ w7 D7.out (by omega) (by omega) (by omega)).mono ?_
    rintro e w8 ⟨r4, hr4, rfl, hd, hg⟩
    have D8 := keep hd
    have G8 := keep (zgb_trans G7.out hg)
    clear hd hg D7 G7
    go_wp2_with fail
    refine (DN.out r4 (by omega) w8).mono ?_
    rintro e w9 ⟨rfl, hb⟩
    have p4 := keep (decW_pl r4 (by omega))
    generalize decW r4 = s4 at *
    have D9 := keep (D8.out.after hb)
    have G9 := keep (zgb_below G8.out hb (by have := G8.out.size; omega))
    have P5 := keep (P4.out.app p4.out)
    have z5 := p4.out.1
    clear hb D8 G8
    go_wp2_with fail
    go_ret
    exact ⟨_, P5.out.mono (by omega), rfl, D9.out.mono (by omega), G9.out⟩
  · have B8 := keep (show Has (w7.alloc (.cells #[.string ⟨#[109, 97, 103, 110, 101, 116, 32]⟩, .string ⟨#[98, 97, 99, 107, 32]⟩, .string ⟨#[100, 114, 105, 102, 116, 32]⟩] 9)) w7.heap.size 9 ((texts4).map Value.string).toArray from Has.made w7 _ _)
    have D8 := keep (D7.out.alloc (.cells #[.string ⟨#[109, 97, 103, 110, 101, 116, 32]⟩, .string ⟨#[98, 97, 99, 107, 32]⟩, .string ⟨#[100, 114, 105, 102, 116, 32]⟩] 9))
    have G8 := keep (zgb_alloc G7.out (.cells #[.string ⟨#[109, 97, 103, 110, 101, 116, 32]⟩, .string ⟨#[98, 97, 99, 107, 32]⟩, .string ⟨#[100, 114, 105, 102, 116, 32]⟩] 9))
    clear D7 G7
    go_wp2_with fail
    refine (TX.out w7.heap.size _ 3 texts4 _ _ _ D8.out (by omega) rfl (by omega) (by omega) (by omega) texts4_pl B8.out).mono ?_
    rintro e w8 ⟨s, ps, rfl, hd, hg⟩
    have D9 := keep hd
    have G9 := keep (zgb_trans G8.out hg)
    have zs := ps.1
    clear hd hg D8 G8 B8
    have P1 := keep (ps.app px.out)
    go_wp2_with fail
    go_ret
    exact ⟨_, P1.out.mono (by omega), rfl, D9.out.mono (by omega), G9.out⟩
  · go_wp2_with fail
    refine (ON.out 3 _ w7 D7.out (by omega) (by omega) (by omega)).mono ?_
    rintro e w8 ⟨b1, rfl, hd, hg⟩
    have D8 := keep hd
    have G8 := keep (zgb_trans G7.out hg)
    clear hd hg D7 G7
    cases b1
    · go_wp2_with fail
      refine (ON.out 3 _ w8 D8.out (by omega) (by omega) (by omega)).mono ?_
      rintro e w9 ⟨b2, rfl, hd, hg⟩
      have D9 := keep hd
      have G9 := keep (zgb_trans G8.out hg)
      clear hd hg D8 G8
      cases b2
      · have P1 := keep ((show Pl 5 (⟨#[100, 114, 111, 112, 32]⟩ : ByteArray) from ⟨Nat.le_refl _, by decide⟩).app pn.out)
        go_wp2_with fail
        go_ret
        exact ⟨_, P1.out.mono (by omega), rfl, D9.out.mono (by omega), G9.out⟩
      · go_wp2_with fail
        refine (PK.out 3 _ w9 D9.out (by omega) (by omega) (by omega)).mono ?_
        rintro e w10 ⟨r4, hr4, rfl, hd, hg⟩
        have D10 := keep hd
        have G10 := keep (zgb_trans G9.out hg)
        have DX := keep (DN.out (4 + r4) (by omega) w10)
        rw [show ((4 + r4 : Nat) : Int) = 4 + (r4 : Int) by omega] at DX
        clear hd hg D9 G9
        go_wp2_with fail
        refine DX.out.mono ?_
        rintro e w11 ⟨rfl, hb⟩
        have p4 := keep (decW_pl (4 + r4) (by omega))
        generalize decW (4 + r4) = s4 at *
        have D11 := keep (D10.out.after hb)
        have G11 := keep (zgb_below G10.out hb (by have := G10.out.size; omega))
        have z4 := p4.out.1
        have P5 := keep ((show Pl 5 (⟨#[103, 114, 105, 100, 32]⟩ : ByteArray) from ⟨Nat.le_refl _, by decide⟩).app p4.out)
        have P6 := keep (P5.out.app (show Pl 1 (⟨#[32]⟩ : ByteArray) from ⟨Nat.le_refl _, by decide⟩))
        have z5 := P5.out.1
        have z6 := P6.out.1
        clear hb D10 G10 DX
        go_wp2_with fail
        refine (PK.out 3 _ w11 D11.out (by omega) (by omega) (by omega)).mono ?_
        rintro e w12 ⟨r5, hr5, rfl, hd, hg⟩
        have D12 := keep hd
        have G12 := keep (zgb_trans G11.out hg)
        have DX := keep (DN.out (4 + r5) (by omega) w12)
        rw [show ((4 + r5 : Nat) : Int) = 4 + (r5 : Int) by omega] at DX
        clear hd hg D11 G11
        go_wp2_with fail
        refine DX.out.mono ?_
        rintro e w13 ⟨rfl, hb⟩
        have p5 := keep (decW_pl (4 + r5) (by omega))
        generalize decW (4 + r5) = s5 at *
        have D13 := keep (D12.out.after hb)
        have G13 := keep (zgb_below G12.out hb (by have := G12.out.size; omega))
        have z7 := p5.out.1
        have P7 := keep (P6.out.app p5.out)
        clear hb D12 G12 DX
        go_wp2_with fail
        go_ret
        exact ⟨_, P7.out.mono (by omega), rfl, D13.out.mono (by omega), G13.out⟩
    · go_wp2_with fail
      refine (PK.out 4 _ w8 D8.out (by omega) (by omega) (by omega)).mono ?_
      rintro e w10 ⟨r4, hr4, rfl, hd, hg⟩
      have D10 := keep hd
      have G10 := keep (zgb_trans G8.out hg)
      have DX := keep (DN.out (1 + r4) (by omega) w10)
      rw [show ((1 + r4 : Nat) : Int) = 1 + (r4 : Int) by omega] at DX
      clear hd hg D8 G8
      go_wp2_with fail
      refine DX.out.mono ?_
      rintro e w11 ⟨rfl, hb⟩
      have p4 := keep (decW_pl (1 + r4) (by omega))
      generalize decW (1 + r4) = s4 at *
      have D11 := keep (D10.out.after hb)
      have G11 := keep (zgb_below G10.out hb (by have := G10.out.size; omega))
      have z4 := p4.out.1
      have P5 := keep ((show Pl 8 (⟨#[115, 116, 114, 101, 97, 109, 115, 32]⟩ : ByteArray) from ⟨Nat.le_refl _, by decide⟩).app p4.out)
      have P6 := keep (P5.out.app (show Pl 1 (⟨#[32]⟩ : ByteArray) from ⟨Nat.le_refl _, by decide⟩))
      have P7 := keep (P6.out.app px.out)
      have z5 := P5.out.1
      have z6 := P6.out.1
      clear hb D10 G10 DX
      go_wp2_with fail
      go_ret
      exact ⟨_, P7.out.mono (by omega), rfl, D11.out.mono (by omega), G11.out⟩
  · have P1 := keep ((show Pl 6 (⟨#[102, 111, 114, 99, 101, 32]⟩ : ByteArray) from ⟨Nat.le_refl _, by decide⟩).app pn.out)
    have P2 := keep (P1.out.app (show Pl 1 (⟨#[32]⟩ : ByteArray) from ⟨Nat.le_refl _, by decide⟩))
    have P3 := keep (P2.out.app pr.out)
    have z1 := P1.out.1
    have z2 := P2.out.1
    go_wp2_with fail
    go_ret
    exact ⟨_, P3.out.mono (by omega), rfl, D7.out.mono (by omega), G7.out⟩
  · go_wp2_with fail
    refine (ON.out 2 _ w7 D7.out (by omega) (by omega) (by omega)).mono ?_
    rintro e w8 ⟨b1, rfl, hd, hg⟩
    have D8 := keep hd
    have G8 := keep (zgb_trans G7.out hg)
    clear hd hg D7 G7
    cases b1
    · go_wp2_with fail
      refine (PK.out 16 _ w8 D8.out (by omega) (by omega) (by omega)).mono ?_
      rintro e w9 ⟨r4, hr4, rfl, hd, hg⟩
      have D9 := keep hd
      have G9 := keep (zgb_trans G8.out hg)
      clear hd hg D8 G8
      go_wp2_with fail
      refine (DN.out r4 (by omega) w9).mono ?_
      rintro e w10 ⟨rfl, hb⟩
      have p4 := keep (decW_pl r4 (by omega))
      generalize decW r4 = s4 at *
      have D10 := keep (D9.out.after hb)
      have G10 := keep (zgb_below G9.out hb (by have := G9.out.size; omega))
      have z4 := p4.out.1
      have P1 := keep ((show Pl 7 (⟨#[99, 104, 97, 114, 103, 101, 32]⟩ : ByteArray) from ⟨Nat.le_refl _, by decide⟩).app p4.out)
      clear hb D9 G9
      go_wp2_with fail
      go_ret
      exact ⟨_, P1.out.mono (by omega), rfl, D10.out.mono (by omega), G10.out⟩
    · have P1 := keep ((show Pl 7 (⟨#[101, 110, 101, 114, 103, 121, 32]⟩ : ByteArray) from ⟨Nat.le_refl _, by decide⟩).app pr.out)
      go_wp2_with fail
      go_ret
      exact ⟨_, P1.out.mono (by omega), rfl, D8.out.mono (by omega), G8.out⟩
  · have B8 := keep (show Has (w7.alloc (.cells #[.string ⟨#[115, 104, 111, 119]⟩, .string ⟨#[116, 117, 114, 110]⟩, .string ⟨#[115, 111, 114, 116]⟩, .string ⟨#[107, 105, 110, 101, 116, 105, 99]⟩, .string ⟨#[116, 111, 116, 97, 108]⟩, .string ⟨#[109, 111, 109, 101, 110, 116, 117, 109]⟩, .string ⟨#[111, 114, 100, 101, 114]⟩, .string ⟨#[99, 101, 108, 108, 115]⟩, .string ⟨#[99, 111, 117, 110, 116]⟩] 9)) w7.heap.size 9 ((texts8).map Value.string).toArray from Has.made w7 _ _)
    have D8 := keep (D7.out.alloc (.cells #[.string ⟨#[115, 104, 111, 119]⟩, .string ⟨#[116, 117, 114, 110]⟩, .string ⟨#[115, 111, 114, 116]⟩, .string ⟨#[107, 105, 110, 101, 116, 105, 99]⟩, .string ⟨#[116, 111, 116, 97, 108]⟩, .string ⟨#[109, 111, 109, 101, 110, 116, 117, 109]⟩, .string ⟨#[111, 114, 100, 101, 114]⟩, .string ⟨#[99, 101, 108, 108, 115]⟩, .string ⟨#[99, 111, 117, 110, 116]⟩] 9))
    have G8 := keep (zgb_alloc G7.out (.cells #[.string ⟨#[115, 104, 111, 119]⟩, .string ⟨#[116, 117, 114, 110]⟩, .string ⟨#[115, 111, 114, 116]⟩, .string ⟨#[107, 105, 110, 101, 116, 105, 99]⟩, .string ⟨#[116, 111, 116, 97, 108]⟩, .string ⟨#[109, 111, 109, 101, 110, 116, 117, 109]⟩, .string ⟨#[111, 114, 100, 101, 114]⟩, .string ⟨#[99, 101, 108, 108, 115]⟩, .string ⟨#[99, 111, 117, 110, 116]⟩] 9))
    clear D7 G7
    go_wp2_with fail
    refine (TX.out w7.heap.size _ 9 texts8 _ _ _ D8.out (by omega) rfl (by omega) (by omega) (by omega) texts8_pl B8.out).mono ?_
    rintro e w8 ⟨s, ps, rfl, hd, hg⟩
    have D9 := keep hd
    have G9 := keep (zgb_trans G8.out hg)
    have zs := ps.1
    clear hd hg D8 G8 B8
    go_wp2_with fail
    go_ret
    exact ⟨s, ps.mono (by omega), rfl, D9.out.mono (by omega), G9.out⟩
end Go.Proofs.YtldnldgndjbhfaaDoor
namespace Go.Proofs.YtldnldgndjbhfaaDoor
open Go.RowKit Go.Sort Ieee
set_option linter.unusedSimpArgs false
set_option linter.unusedVariables false

theorem zgrown {w w1 w2 : World} {B g : Nat} (h : Below B w w1) (hg : w1.grownBy w2 (some g)) (hB : B ≤ g) (hB2 : B ≤ w1.heap.size) : Below B w w2 :=
  h.grown hg hB2 (fun g' e => by injection e with e; omega)

set_option maxHeartbeats 4000000 in
set_option maxRecDepth 20000 in
theorem B10Desk_ok (a : Option Addr) (n c : Nat) (w : World) (hb : Bytes w a n) :
    Calls Tryd.prog 6 #[.slice a n c] w fun e w' => ∃ (W H : Nat) (ps : List P6) (A : Option Addr) (cp mg bk : Nat), (Sides W H ∧ H ≤ 6) ∧ ps.length ≤ 5 ∧ (∀ p ∈ ps, p.ok) ∧ mg < 4294967296 ∧ bk < 4294967296 ∧ e = .returned (.agg #[.int .i64 W, .int .i64 H, .slice A ps.length cp, .float .f32 mg, .float .f32 bk]) ∧ w'.ownsRow w.heap.size 60 4 (.slice A ps.length cp) ps.length (p6row ps) ∧ Below w.heap.size w w' := by
  have P0 := keep (Has.made w 31 #[.int .i64 0, .int .i64 0, .slice none 0 0, .float .f32 0, .float .f32 0])
  have B0 := keep ((Below.refl w.heap.size w).alloc (Nat.le_refl _) (.cells #[.int .i64 0, .int .i64 0, .slice none 0 0, .float .f32 0, .float .f32 0] 31))
  have FR := keep (zFrom_ok a n c _ (show Bytes (w.alloc (.cells #[.int .i64 0, .int .i64 0, .slice none 0 0, .float .f32 0, .float .f32 0] 31)) a n from hb.alloc _))
  clear hb
  go_enter Tryd.func6, Tryd.ntmps6
  go_wp2_with fail
  refine FR.out.mono ?_
  rintro e w1 ⟨rfl, hd, hb⟩
  rw [World.size_alloc] at hd
  have z1 := hd.lt
  have DK := keep (l05DrawOk_ok (w.heap.size + 1) a n c 0 w1 hd (by omega))
  have P1 := keep (P0.out.after hb)
  have B1 := keep (B0.out.trans (hb.mono B0.out.size))
  clear hd hb P0 B0 FR
  go_wp2_with fail
  refine DK.out.mono ?_
  rintro e w2 ⟨W, H, ps, A, cp, mg, bk, hs, hl, hok, hm, hbk, rfl, hown, hd, hg⟩
  have p2 := zhas_byG P1.out hg (by intro e; injection e with e; omega)
  have j2 := p2.cells
  have u2 := p2.free
  have zP := p2.in_heap
  have B2 := keep (zgrown B1.out hg (by omega) (by omega))
  have OW := keep hown
  have OK := keep hok
  have HS := keep hs
  clear DK P1 B1 hd hg hown hok hs
  go_wp2_with fail
  have q := ((((p2.written 0 (.int .i64 W)).written 1 (.int .i64 H)).written 2 (.slice A ps.length cp)).written 3 (.float .f32 mg)).written 4 (.float .f32 bk)
  have qc := q.cells
  have oo := zown_low (o := 4) (zown_low (o := 3) (zown_low (o := 2) (zown_low (o := 1) (zown_low (o := 0) OW.out (g := w.heap.size) (by omega) (.int .i64 W)) (g := w.heap.size) (by omega) (.int .i64 H)) (g := w.heap.size) (by omega) (.slice A ps.length cp)) (g := w.heap.size) (by omega) (.float .f32 mg)) (g := w.heap.size) (by omega) (.float .f32 bk)
  have bb := (((((Below.refl w.heap.size w2).setCell (p := ⟨w.heap.size, 0, none⟩) (Nat.le_refl _) (.int .i64 W)).setCell (p := ⟨w.heap.size, 1, none⟩) (Nat.le_refl _) (.int .i64 H)).setCell (p := ⟨w.heap.size, 2, none⟩) (Nat.le_refl _) (.slice A ps.length cp)).setCell (p := ⟨w.heap.size, 3, none⟩) (Nat.le_refl _) (.float .f32 mg)).setCell (p := ⟨w.heap.size, 4, none⟩) (Nat.le_refl _) (.float .f32 bk)
  exact bodyPost_ret (v := .agg #[.int .i64 W, .int .i64 H, .slice A ps.length cp, .float .f32 mg, .float .f32 bk]) (by simp [results, Tryd.results6, go_sem, qc]) rfl ⟨W, H, ps, A, cp, mg, bk, HS.out, hl, OK.out, hm, hbk, rfl, zown_base oo (by omega), B2.out.trans bb⟩

theorem infoStr : (Tryd.prog.info? 9).map (fun i => (i.zero, i.size, i.bytes)) = some (some (.string ⟨#[]⟩), 1, 16) := by kernel_rfl
theorem one_new {w : World} {g : Nat} {t : TypeId} {x : Value} (h : Has w g t #[x]) : ∀ j u, [x][j]? = some u → w.cell? ((⟨g, 0, none⟩ : Addr).add j) = some u := by
  intro j u hj
  rw [Addr.add_lit, Nat.zero_add, h.cells]
  simpa using hj

set_option maxHeartbeats 4000000 in
set_option maxRecDepth 20000 in
theorem B10Lines_ok (a : Option Addr) (n c W H cp mg bk N : Nat) (A : Option Addr) (w : World) (hb : Bytes w a n) (hW : 4 ≤ W ∧ W ≤ 7) (hN : N ≤ 5) :
    Calls Tryd.prog 5 #[.slice a n c, .agg #[.int .i64 W, .int .i64 H, .slice A N cp, .float .f32 mg, .float .f32 bk]] w fun e w' => ∃ (L : List ByteArray) (D : Option Addr) (d : Nat), L.length ≤ 5 ∧ (∀ s ∈ L, Pl 500 s) ∧ e = .returned (.slice D L.length d) ∧ w'.ownsRow w.heap.size 9 1 (.slice D L.length d) L.length (L.map Value.string) ∧ Below w.heap.size w w' := by
  have C0 := keep (Has.made w 31 #[.int .i64 W, .int .i64 H, .slice A N cp, .float .f32 mg, .float .f32 bk])
  have B0 := keep ((Below.refl w.heap.size w).alloc (Nat.le_refl _) (.cells #[.int .i64 W, .int .i64 H, .slice A N cp, .float .f32 mg, .float .f32 bk] 31))
  have FR := keep (zFrom_ok a n c _ (show Bytes (w.alloc (.cells #[.int .i64 W, .int .i64 H, .slice A N cp, .float .f32 mg, .float .f32 bk] 31)) a n from hb.alloc _))
  clear hb
  go_enter Tryd.func5, Tryd.ntmps5
  go_wp2_with fail
  refine FR.out.mono ?_
  rintro e w1 ⟨rfl, hd, hb⟩
  rw [World.size_alloc] at hd
  have z1 := hd.lt
  have C1 := keep ((C0.out.after hb).beside (.cells #[] 9))
  have B1 := keep ((B0.out.trans (hb.mono B0.out.size)).alloc (by omega) (.cells #[] 9))
  have D1 := keep (hd.alloc (.cells #[] 9))
  have R1 := keep (Has.made w1 9 #[])
  clear hd hb C0 B0 FR
  go_wp2_with fail
  refine (pick_ok 6 (w.heap.size + 1) a n c 0 _ D1.out (by omega) (by omega) (by omega)).mono ?_
  rintro e w2 ⟨k, hk, rfl, hd, hg⟩
  have C2 := keep (zhas_byG C1.out hg (by intro e; injection e with e; omega))
  have R2 := keep (zhas_byG R1.out hg (by intro e; injection e with e; omega))
  have B2 := keep (zgrown B1.out hg (by omega) (by simp only [World.size_alloc]; omega))
  have D2 := keep hd
  clear hd hg C1 R1 B1 D1
  go_wp2_with fail
  go_loopw [6, 7] (fun s t wr => ∃ (j : Nat) (L : List ByteArray) (D : Option Addr) (d : Nat), j + L.length ≤ 5 ∧ t = .int .i64 j ∧ s = .slice D L.length d ∧ Kept (∀ s ∈ L, Pl 500 s) ∧ Kept (wr.ownsRow (w.heap.size + 2) 9 1 (.slice D L.length d) L.length (L.map Value.string)) ∧ Kept (Drawn wr (w.heap.size + 1) a n c (1 + 130 * L.length)) ∧ Kept (Has wr w.heap.size 31 #[.int .i64 W, .int .i64 H, .slice A N cp, .float .f32 mg, .float .f32 bk]) ∧ Kept (Below w.heap.size w wr)) (fun _ t _ => (intOf t).toNat)
  case atStart => exact ⟨k, [], some ⟨w1.heap.size, 0, none⟩, 0, by show k + 0 ≤ 5; omega, rfl, rfl, keep (fun s h => by cases h), keep ⟨rfl, .inr ⟨w1.heap.size, 0, #[], rfl, by omega, R2.out, Nat.le_refl _, by simp [maxLen], rfl, rfl⟩⟩, D2, C2, B2⟩
  case round =>
    clear C2 R2 B2 D2
    obtain ⟨j, L, D, d, hj, rfl, rfl, hok, ho, hd, hc, hb⟩ := hrel
    by_cases hlt : 0 < j
    · have hi : ((0 : Int) < (j : Int)) := by omega
      have wj : IntKind.i64.wrap ((j : Int) - 1) = ((j - 1 : Nat) : Int) := by rw [IntWalk.i64_in _ ⟨by omega, by omega⟩]; omega
      obtain ⟨i0, hi0, hz0, hz1, hz2⟩ := info_parts infoStr
      have HI := keep hi0
      have HZ0 := keep hz0
      have HZ1 := keep hz1
      have HZ2 := keep hz2
      clear hi0 hz0 hz1 hz2
      have zb := hb.out.size
      go_wp2_with fail
      refine (l11DrawLine_ok (w.heap.size + 1) w.heap.size a n c _ W H cp mg bk N A wr hd.out (by omega) hc.out hW hN (by omega)).mono ?_
      rintro e w3 ⟨s, hs, rfl, hd3, hg3⟩
      have zg := hd3.lt
      have D3 := keep hd3
      have PS := keep hs
      have O3 := keep (zown_byG ho.out hg3 (by omega))
      have C3 := keep (zhas_byG hc.out hg3 (by intro e; injection e with e; omega))
      have B3 := keep (zgrown hb.out hg3 (by omega) (by omega))
      clear hd3 hg3 hs hd ho hc hb
      go_wp2_with (at_builtin; go_loud (refine wpList_append_own_at _ rfl _ _ 24 rfl (w.heap.size + 2) 9 i0 _ 1 16 Tryd.underlying24 HI.out HZ0.out HZ1.out HZ2.out rfl (by decide) (.slice D L.length d) L.length _ rfl (O3.out.alloc _) ⟨w3.heap.size, 0, none⟩ 1 1 [.string s] rfl rfl ?c1 ?c2 ?c3 ?c4 ?c5 ?_))
      case c1 =>
        have r := Has.made w3 9 #[.string s]
        intro j u hj
        exact one_new r j u hj
      case c2 =>
        intro u hu
        rw [List.mem_singleton.1 hu]; rfl
      case c3 => unfold maxLen; omega
      case c4 => omega
      case c5 => first | omega | (simp only [World.size_alloc]; omega)
      intro v' w9 hown' hgrow _ _
      obtain ⟨g', cap', rfl, hB', hlt'⟩ := hown'.form (by omega)
      have hL := O3.out.lt
      have bX : Below (w.heap.size + 2) (w3.alloc (.cells #[.string s] 9)) w9 := (Below.refl (w.heap.size + 2) _).grown hgrow (by simp only [World.size_alloc]; omega) (fun b e => (hL b e).1)
      have D9 := keep ((D3.out.alloc (.cells #[.string s] 9)).later bX (by omega))
      have C9 := keep ((C3.out.beside (.cells #[.string s] 9)).later bX (by omega))
      have B9 := keep ((B3.out.alloc (by omega) (.cells #[.string s] 9)).trans (bX.mono (by omega)))
      have OW := keep hown'
      clear hown' hgrow bX hL D3 O3 C3 B3
      go_wp2_with fail
      go_roundw
      case rel => exact ⟨j - 1, L ++ [s], _, _, by rw [List.length_append]; show j - 1 + (L.length + 1) ≤ 5; omega, by go_num, by rw [List.length_append]; rfl, keep (fun x hx => by
          rcases List.mem_append.1 hx with h1 | h1
          · exact hok.out x h1
          · rw [List.mem_singleton.1 h1]; exact PS.out), keep (by
          have e := OW.out
          rw [List.map_append, List.length_append]
          exact e), keep (D9.out.mono (by rw [List.length_append]; show _ ≤ 1 + 130 * (L.length + 1); omega)), C9, B9⟩
      case measure => simp [intOf]; omega
    · obtain rfl : j = 0 := by omega
      go_wp2_with fail
      go_ret
      exact ⟨L, D, d, by omega, hok.out, rfl, zown_base ho.out (by omega), hb.out⟩
end Go.Proofs.YtldnldgndjbhfaaDoor
