/- Contracts: the sum and the mean of a row, by their words; a row less its mean. No condition but that each step runs. -/
import Derived.Test.YtmlocjcfcmifdaaXc
namespace Go.Proofs.Ytmlocjcfcmifdaa
open Go.RowKit Go.Sort Ieee
set_option linter.unusedSimpArgs false
set_option linter.unusedVariables false

/-- A row less its mean: what is done. -/
structure MeanW (n : Nat) (a S : Nat → Nat) (m : Nat) (o : Nat → Nat) : Prop where
  s0 : S 0 = 0
  fs : ∀ i, i < n → floatBits .add .f32 (S i) (a i) = some (S (i + 1))
  fm : floatBits .quo .f32 (S n) (floatOfInt .f32 (n : Int)) = some m
  fo : ∀ i, i < n → floatBits .sub .f32 (a i) m = some (o i)

set_option maxHeartbeats 2000000 in
theorem sumW_ok (n : Nat) (hn : n ≤ 1000) (a S : Nat → Nat) (s0 : S 0 = 0) (fs : ∀ i, i < n → floatBits .add .f32 (S i) (a i) = some (S (i + 1))) (g c : Nat) (w : World) (hh : FW w g n a) :
    Calls Try.prog 84 #[.slice (some ⟨g, 0, none⟩) n c] w fun e w' => e = .returned (.float .f32 (S n)) ∧ w' = w := by
  have HH := keep hh
  have HS := keep fs
  have HZ := keep s0
  clear hh fs s0
  go_enter Try.func84, Try.ntmps84
  go_wp2_with fail
  go_loopw [8, 3] (fun s t wr => ∃ i : Nat, i ≤ n ∧ s = .int .i64 i ∧ t = .float .f32 (S i) ∧ wr = w) (fun s _ _ => n - (intOf s).toNat)
  case atStart => exact ⟨0, Nat.zero_le _, rfl, by rw [HZ.out], rfl⟩
  case round =>
    obtain ⟨i, hi, rfl, rfl, rfl⟩ := hrel
    by_cases hlt : i < n
    · have z1 := HH.out.2 i hlt
      have f1 := zrun (HS.out i hlt)
      have hlt' : (i : Int) < (n : Int) := by omega
      go_wp2_with fail
      go_roundw
      case rel => exact ⟨i + 1, by omega, by go_num, rfl, by trivial⟩
      case measure => simp [intOf]; omega
    · obtain rfl : i = n := by omega
      go_wp2_with fail
      go_ret
      exact ⟨rfl, rfl⟩

set_option maxHeartbeats 2000000 in
theorem meanW_ok (n : Nat) (hn : n ≤ 1000) (a S : Nat → Nat) (m : Nat) (s0 : S 0 = 0) (fs : ∀ i, i < n → floatBits .add .f32 (S i) (a i) = some (S (i + 1))) (fm : floatBits .quo .f32 (S n) (floatOfInt .f32 (n : Int)) = some m) (g c : Nat) (w : World) (hh : FW w g n a) :
    Calls Try.prog 56 #[.slice (some ⟨g, 0, none⟩) n c] w fun e w' => e = .returned (.float .f32 m) ∧ w' = w := by
  have SU := keep (sumW_ok n hn a S s0 fs g c w hh)
  have f1 := zrun fm
  generalize S n = s at *
  clear fm fs s0 hh
  go_enter Try.func56, Try.ntmps56
  go_wp2_with fail
  refine (SU.out).mono ?_
  rintro e w' ⟨rfl, hw⟩
  have hw := hw.symm
  subst hw
  clear SU
  go_wp2_with fail
  go_ret
  exact ⟨rfl, rfl⟩

set_option maxHeartbeats 4000000 in
set_option maxRecDepth 20000 in
theorem withoutMeanW_ok (n : Nat) (hn0 : 0 < n) (hn : n ≤ 1000) {a S : Nat → Nat} {m : Nat} {o : Nat → Nat} (M : MeanW n a S m o) (g c : Nat) (w : World) (hh : FW w g n a) :
    Calls Try.prog 48 #[.slice (some ⟨g, 0, none⟩) n c] w fun e w' => ∃ (g2 d : Nat) (cur : Array Value), e = .returned (.slice (some ⟨g2, 0, none⟩) n d) ∧ w.heap.size ≤ g2 ∧ Has w' g2 28 cur ∧ CW cur n o ∧ n ≤ d ∧ Below w.heap.size w w' := by
  have ME := keep (meanW_ok n hn a S m M.s0 M.fs M.fm g c w hh)
  have CL := keep (CloneW_ok g n c a w hh hn0 hn)
  have HO := keep M.fo
  clear M hh
  go_enter Try.func48, Try.ntmps48
  go_wp2_with fail
  refine (ME.out).mono ?_
  rintro e w' ⟨rfl, hw⟩
  have hw := hw.symm
  subst hw
  clear ME
  go_wp2_with fail
  refine (CL.out).mono ?_
  rintro e w1 ⟨g2, d, cur, rfl, hB, hg, hc, hd, hb⟩
  have G1 := keep hg
  have C1 : Kept (CW cur n (fun i => if i < 0 then o i else a i)) := keep (hc.congr (fun i hi => by rw [if_neg (by omega)]))
  have B1 := keep hb
  clear hg hc hb CL
  go_wp2_with fail
  go_loopw [12] (fun s wr => ∃ (j : Nat) (cy : Array Value), j ≤ n ∧ s = .int .i64 j ∧ Kept (Has wr g2 28 cy) ∧ Kept (CW cy n (fun i => if i < j then o i else a i)) ∧ Kept (Below w.heap.size w wr)) (fun s _ => n - (intOf s).toNat)
  case atStart => exact ⟨0, cur, Nat.zero_le _, rfl, G1, C1, B1⟩
  case round =>
    clear G1 C1 B1
    obtain ⟨j, cy, hj, rfl, hg, hc, hb⟩ := hrel
    by_cases hlt : j < n
    · have z1 := (hg.out.cells j).trans (hc.out.2 j hlt)
      dsimp only at z1
      rw [if_neg (by omega)] at z1
      have u1 := hg.out.free j
      have lg := hg.out.in_heap
      have f1 := zrun (HO.out j hlt)
      have hlt' : (j : Int) < (n : Int) := by omega
      go_wp2_with fail
      go_roundw
      case rel => exact ⟨j + 1, _, by omega, by go_num, keep (hg.out.written j _), keep (hc.out.put j _ hlt (fun i hi => by
        by_cases e : i = j
        · subst e; rw [if_pos (by omega), if_pos rfl]
        · rw [if_neg e]
          by_cases q : i < j
          · rw [if_pos q, if_pos (by omega)]
          · rw [if_neg q, if_neg (by omega)])), keep (hb.out.setCell (p := ⟨g2, j, none⟩) hB _)⟩
      case measure => simp [intOf]; omega
    · obtain rfl : j = n := by omega
      go_wp2_with fail
      go_ret
      exact ⟨g2, d, cy, rfl, hB, hg.out, hc.out.congr (fun i hi => by rw [if_pos hi]), hd, hb.out⟩
end Go.Proofs.Ytmlocjcfcmifdaa
