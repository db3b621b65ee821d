/- Contract: the equations around a ring, solved. No condition but that each step runs. -/
import Derived.Test.YtmlocjcfcmifdaaXc
namespace Go.Proofs.Ytmlocjcfcmifdaa
open Go.RowKit Go.Sort Ieee
set_option linter.unusedSimpArgs false
set_option linter.unusedVariables false

def lR (_ : Nat) : Nat := 3212836864
def mR (n k : Nat) : Nat := if k = 0 then 1090519040 else if k = n - 1 then 1082654720 else 1082130432
def uR (n k : Nat) : Nat := if k = 0 then 3229614080 else if k = n - 1 then 3212836864 else 0
/-- Equations around a ring: what is done. -/
structure RingW (n : Nat) (r p q : Nat → Nat) (t1 t2 t3 t4 t5 f : Nat) (z x : Nat → Nat) : Prop where
  hp : ∃ t mm s rr c d y, RowW n lR (mR n) lR r t mm s rr c d y p
  hq : ∃ t mm s rr c d y, RowW n lR (mR n) lR (uR n) t mm s rr c d y q
  f1 : floatBits .mul .f32 1048576000 (p (n - 1)) = some t1
  f2 : floatBits .add .f32 (p 0) t1 = some t2
  f3 : floatBits .add .f32 1065353216 (q 0) = some t3
  f4 : floatBits .mul .f32 1048576000 (q (n - 1)) = some t4
  f5 : floatBits .add .f32 t3 t4 = some t5
  f6 : floatBits .quo .f32 t2 t5 = some f
  fz : ∀ i, i < n → floatBits .mul .f32 f (q i) = some (z i)
  fx : ∀ i, i < n → floatBits .sub .f32 (p i) (z i) = some (x i)

theorem cw_rep (n v : Nat) : CW (List.replicate n (Value.float .f32 v)).toArray n (fun _ => v) := ⟨by simp, fun i hi => by simp [hi]⟩

set_option maxHeartbeats 8000000 in
set_option maxRecDepth 20000 in
theorem SolveRing_ok (k : Nat) (hk1 : 2 ≤ k) (hk2 : k ≤ 40) {r p q : Nat → Nat} {t1 t2 t3 t4 t5 f : Nat} {z x : Nat → Nat} (R : RingW (k + 1) r p q t1 t2 t3 t4 t5 f z x) (gr cr : Nat) (w : World) (hr : FW w gr (k + 1) r) :
    Calls Try.prog 11 #[.slice (some ⟨gr, 0, none⟩) ((k + 1 : Nat) : Nat) cr] w fun e w' => ∃ (g : Nat) (cur : Array Value), e = .returned (.tuple #[.slice (some ⟨g, 0, none⟩) (k + 1) (k + 1), .bool true]) ∧ w.heap.size ≤ g ∧ Has w' g 28 cur ∧ CW cur (k + 1) x ∧ Below w.heap.size w w' := by
  have WI : Kept (∀ w, Calls Try.prog 43 #[.int .i64 ((k + 1 : Nat) : Int), .int .i64 3, .int .i64 256] w fun e w' => e = .returned (.bool true) ∧ w' = w) := keep (fun w => (within_any ((k + 1 : Nat) : Int) 3 256 w).mono fun e w' ⟨he, hw⟩ => ⟨by rw [he]; congr 2; simp; omega, hw⟩)
  have RP := keep (fun v b w h => xRepeat v (k + 1) (by omega) (by omega) b w h)
  have SR := keep (fun {r t mm s rr c d z x} (R : RowW (k + 1) lR (mR (k + 1)) lR r t mm s rr c d z x) gl gm gr cl cm cr w h1 h2 h3 => SolveRow_ok (k + 1) (by omega) (by omega) R gl gm gl gr cl cm cl cr w h1 h2 h1 h3)
  have MK := fun w => run_mkW (k + 1) (by omega) w
  rw [show ((k + 1 : Nat) : Int) = (k : Int) + 1 by omega] at MK
  have MK := keep MK
  have HR := keep R
  have HQ := keep hr
  have e0 : (0 : Int) < (k : Int) + 1 := by omega
  have e1 : (k : Int) < (k : Int) + 1 := by omega
  have e2 : (0 : Int) ≤ (k : Int) := by omega
  have wk : IntKind.i64.wrap (k : Int) = (k : Int) := IntWalk.i64_in _ ⟨by omega, by omega⟩
  clear R hr
  go_enter Try.func11, Try.ntmps11
  go_wp2_with fail
  refine (WI.out _).mono ?_
  rintro e w' ⟨rfl, hw⟩
  have hw := hw.symm
  subst hw
  clear WI
  go_wp2_with fail
  refine (RP.out _ _ _ (Has.made _ _ _)).mono ?_
  rintro e w1 ⟨g1, rfl, hg1, hh1, hb1⟩
  have B1 := keep (((Below.refl w.heap.size w).alloc (Nat.le_refl _) (.cells #[.float .f32 3212836864] 28)).trans (hb1.mono (by simp)))
  have S1 := keep ((cw_rep (k + 1) 3212836864).fw hh1)
  have lg1 : w.heap.size ≤ g1 := by simp at hg1; omega
  clear hg1 hh1 hb1
  go_wp2_with fail
  refine (RP.out _ _ _ (Has.made _ _ _)).mono ?_
  rintro e w2 ⟨g2, rfl, hg2, hh2, hb2⟩
  have B2 := keep ((B1.out.alloc B1.out.size (.cells #[.float .f32 1082130432] 28)).trans (hb2.mono (by have := B1.out.size; simp; omega)))
  have S2 := keep ((S1.out.beside (.cells #[.float .f32 1082130432] 28)).after hb2)
  have n12 : g1 ≠ g2 := by have := S1.out.1; simp at hg2; omega
  have lg2 : w.heap.size ≤ g2 := by have := B1.out.size; simp at hg2; omega
  have c2 : w2.cell? ⟨g2, 0, none⟩ = some (.float .f32 1082130432) := (hh2.cells 0).trans (by simp)
  have u2 := hh2.free 0
  have l2 := hh2.in_heap
  have hh3 := hh2.written 0 (.float .f32 1090519040)
  have c3 : (w2.setCell ⟨g2, 0, none⟩ (.float .f32 1090519040)).cell? ⟨g2, k, none⟩ = some (.float .f32 1082130432) := (hh3.cells k).trans (by rw [Array.getElem?_setIfInBounds_ne (by omega)]; simp)
  have u3 := hh3.free k
  have l3 := hh3.in_heap
  have M3 : Kept (FW ((w2.setCell ⟨g2, 0, none⟩ (.float .f32 1090519040)).setCell ⟨g2, k, none⟩ (.float .f32 1082654720)) g2 (k + 1) (mR (k + 1))) := keep ((((cw_rep (k + 1) 1082130432).put 0 1090519040 (by omega) (fun i hi => rfl)).put (g := mR (k + 1)) k 1082654720 (by omega) (fun i hi => by
    unfold mR
    by_cases h0 : i = 0
    · rw [if_pos h0, if_neg (by omega), if_pos h0]
    · rw [if_neg h0]
      by_cases h1 : i = k
      · rw [if_pos (by omega), if_pos h1]
      · rw [if_neg (by omega), if_neg h1, if_neg h0])).fw (hh3.written k (.float .f32 1082654720)))
  have S3 : Kept (FW ((w2.setCell ⟨g2, 0, none⟩ (.float .f32 1090519040)).setCell ⟨g2, k, none⟩ (.float .f32 1082654720)) g1 (k + 1) lR) := keep ((S2.out.set (p := ⟨g2, 0, none⟩) (fun e => n12 e.symm) (.float .f32 1090519040)).set (p := ⟨g2, k, none⟩) (fun e => n12 e.symm) (.float .f32 1082654720))
  have B3 := keep ((B2.out.setCell (p := ⟨g2, 0, none⟩) lg2 (.float .f32 1090519040)).setCell (p := ⟨g2, k, none⟩) lg2 (.float .f32 1082654720))
  have Q3 := keep (HQ.out.after B3.out)
  clear hg2 hh2 hb2 hh3 S1 B1 S2 B2 RP
  go_wp2_with fail
  have z3 : ((w2.setCell ⟨g2, 0, none⟩ (.float .f32 1090519040)).setCell ⟨g2, k, none⟩ (.float .f32 1082654720)).heap.size = w2.heap.size := by simp [World.setCell]
  clear c2 u2 l2 c3 u3 l3
  generalize (w2.setCell ⟨g2, 0, none⟩ (.float .f32 1090519040)).setCell ⟨g2, k, none⟩ (.float .f32 1082654720) = w3 at *
  have U4 : Kept (FW (w3.alloc (.cells (((Array.replicate (k + 1) (.float .f32 0)).setIfInBounds 0 (.float .f32 3229614080)).setIfInBounds k (.float .f32 3212836864)) 28)) w2.heap.size (k + 1) (uR (k + 1))) := keep (z3 ▸ (((CW.zeros (k + 1)).put 0 3229614080 (by omega) (fun i hi => rfl)).put (g := uR (k + 1)) k 3212836864 (by omega) (fun i hi => by
    unfold uR
    by_cases h0 : i = 0
    · rw [if_pos h0, if_neg (by omega), if_pos h0]
    · rw [if_neg h0]
      by_cases h1 : i = k
      · rw [if_pos (by omega), if_pos h1]
      · rw [if_neg (by omega), if_neg h1, if_neg h0])).fw (Has.made w3 28 _))
  have S4 := keep (S3.out.beside (.cells (((Array.replicate (k + 1) (.float .f32 0)).setIfInBounds 0 (.float .f32 3229614080)).setIfInBounds k (.float .f32 3212836864)) 28))
  have M4 := keep (M3.out.beside (.cells (((Array.replicate (k + 1) (.float .f32 0)).setIfInBounds 0 (.float .f32 3229614080)).setIfInBounds k (.float .f32 3212836864)) 28))
  have Q4 := keep (Q3.out.beside (.cells (((Array.replicate (k + 1) (.float .f32 0)).setIfInBounds 0 (.float .f32 3229614080)).setIfInBounds k (.float .f32 3212836864)) 28))
  have B4 := keep (B3.out.alloc B3.out.size (.cells (((Array.replicate (k + 1) (.float .f32 0)).setIfInBounds 0 (.float .f32 3229614080)).setIfInBounds k (.float .f32 3212836864)) 28))
  clear S3 M3 Q3 B3 MK
  generalize w3.alloc (.cells (((Array.replicate (k + 1) (.float .f32 0)).setIfInBounds 0 (.float .f32 3229614080)).setIfInBounds k (.float .f32 3212836864)) 28) = w4 at *
  generalize w2.heap.size = gu at *
  obtain ⟨ta, ma, sa, ra, ca, da, ya, R1⟩ := HR.out.hp
  obtain ⟨tb, mb, sb, rb, cb, db, yb, R2⟩ := HR.out.hq
  with_reducible refine (SR.out R1 g1 g2 gr _ _ _ w4 S4.out M4.out Q4.out).mono ?_
  rintro e w5 ⟨g5, cur5, rfl, hB5, hg5, hc5, hb5⟩
  have S5 := keep (S4.out.after hb5)
  have M5 := keep (M4.out.after hb5)
  have U5 := keep (U4.out.after hb5)
  have B5 := keep (B4.out.trans (hb5.mono B4.out.size))
  have H5 := keep hg5
  have C5 := keep hc5
  have lg5 : w.heap.size ≤ g5 := Nat.le_trans B4.out.size hB5
  clear hB5 hg5 hc5 hb5 S4 M4 Q4 B4 U4 R1
  go_wp2_with fail
  with_reducible refine (SR.out R2 g1 g2 gu _ _ _ w5 S5.out M5.out U5.out).mono ?_
  rintro e w6 ⟨g6, cur6, rfl, hB6, hg6, hc6, hb6⟩
  have H6 := keep (H5.out.after hb6)
  have B6 := keep (B5.out.trans (hb6.mono B5.out.size))
  have n56 : g5 ≠ g6 := by have := H5.out.in_heap; omega
  have P0 := (H6.out.cells 0).trans (C5.out.2 0 (by omega))
  have P1 := (H6.out.cells k).trans (C5.out.2 k (by omega))
  have F6 := keep (hc6.fw hg6)
  have Q0 := (hg6.cells 0).trans (hc6.2 0 (by omega))
  have Q1 := (hg6.cells k).trans (hc6.2 k (by omega))
  have f1 := zrun HR.out.f1
  have f2 := zrun HR.out.f2
  have f3 := zrun HR.out.f3
  have f4 := zrun HR.out.f4
  have f5 := zrun HR.out.f5
  have f6 := zrun HR.out.f6
  rw [show k + 1 - 1 = k by omega] at f1 f4
  clear hB6 hg6 hc6 hb6 S5 M5 U5 B5 H5 R2 SR HQ
  go_wp2_with fail
  go_quiet (fail)
  have C0 : Kept (CW cur5 (k + 1) (fun i => if i < 0 then x i else p i)) := keep (C5.out.congr (fun i hi => by rw [if_neg (by omega)]))
  clear f1 f2 f3 f4 f5 f6 P0 P1 Q0 Q1 C5
  go_wp2_with fail
  go_loopw [85] (fun s wr => ∃ (j : Nat) (cy : Array Value), j ≤ k + 1 ∧ s = .int .i64 j ∧ Kept (Has wr g5 28 cy) ∧ Kept (CW cy (k + 1) (fun i => if i < j then x i else p i)) ∧ Kept (FW wr g6 (k + 1) q) ∧ Kept (Below w.heap.size w wr)) (fun s _ => k + 1 - (intOf s).toNat)
  case atStart => exact ⟨0, cur5, Nat.zero_le _, rfl, keep (H6.out.draws _), C0, keep ⟨F6.out.1, F6.out.2⟩, keep (B6.out.drewN_of _)⟩
  case round =>
    clear H6 C0 F6 B6
    obtain ⟨j, cy, hj, rfl, hg, hc, hq, hb⟩ := hrel
    by_cases hlt : j < k + 1
    · have z1 := (hg.out.cells j).trans (hc.out.2 j hlt)
      dsimp only at z1
      rw [if_neg (by omega)] at z1
      have z2 := hq.out.2 j hlt
      have u1 := hg.out.free j
      have lg := hg.out.in_heap
      have f1 := zrun (HR.out.fz j hlt)
      have f2 := zrun (HR.out.fx j hlt)
      have hlt' : (j : Int) < (k : Int) + 1 := by omega
      go_wp2_with fail
      go_region
      all_goals
        go_wp2_with fail
        go_roundw
      all_goals first
        | (simp [intOf]; done)
        | (simp [intOf]; omega)
        | exact ⟨j + 1, _, by omega, by go_num, keep ((hg.out.written j _).draws 1), keep (hc.out.put j _ hlt (fun i hi => by
            by_cases e : i = j
            · subst e; rw [if_pos (by omega), if_pos rfl]
            · rw [if_neg e]
              by_cases q : i < j
              · rw [if_pos q, if_pos (by omega)]
              · rw [if_neg q, if_neg (by omega)])), keep ((hq.out.set (p := ⟨g5, j, none⟩) n56 _).after (Below.drew (Below.refl _ _))), keep (Below.drew (hb.out.setCell (p := ⟨g5, j, none⟩) lg5 _))⟩
    · obtain rfl : j = k + 1 := by omega
      go_wp2_with fail
      go_ret2
      exact ⟨g5, cy, rfl, lg5, hg.out, hc.out.congr (fun i hi => by rw [if_pos hi]), hb.out⟩
end Go.Proofs.Ytmlocjcfcmifdaa
