/- Contract: the specification's reading of eight digits. -/
import Derived.Test.YtdkjaffnkgbcnaaGreatDoorUe
namespace Go.Proofs.YtdkjaffnkgbcnaaGreatDoor
open Go.RowKit Go.Sort
set_option linter.unusedSimpArgs false

theorem dv_cases (b : UInt8) : (48 ≤ b.toNat ∧ b.toNat ≤ 57 ∧ dv b = some (b.toNat - 48)) ∨ (97 ≤ b.toNat ∧ b.toNat ≤ 102 ∧ dv b = some (b.toNat - 87)) ∨ (¬ (48 ≤ b.toNat ∧ b.toNat ≤ 57) ∧ ¬ (97 ≤ b.toNat ∧ b.toNat ≤ 102) ∧ dv b = none) := by
  unfold dv
  by_cases h : 48 ≤ b.toNat ∧ b.toNat ≤ 57
  · left; rw [if_pos h]; exact ⟨h.1, h.2, rfl⟩
  · right
    rw [if_neg h]
    by_cases h2 : 97 ≤ b.toNat ∧ b.toNat ≤ 102
    · left; rw [if_pos h2]; exact ⟨h2.1, h2.2, rfl⟩
    · right; rw [if_neg h2]; exact ⟨h, h2, rfl⟩
theorem valF_step {n : Nat} {b : UInt8} {d : Nat} {r : List UInt8} (h : dv b = some d) : valF n (b :: r) = valF (16 * n + d) r := by
  show (match dv b with | some d => valF (16 * n + d) r | none => none) = _
  rw [h]
theorem valF_stop {n : Nat} {b : UInt8} {r : List UInt8} (h : dv b = none) : valF n (b :: r) = none := by
  show (match dv b with | some d => valF (16 * n + d) r | none => none) = _
  rw [h]

set_option maxHeartbeats 4000000 in
set_option maxRecDepth 20000 in
theorem l01Digits_8 (l : List UInt8) (w : World) (h8 : l.length = 8) :
    Calls Tryz.prog 65 #[.string (tx l)] w fun e w' => RBs l e ∧ w' = w := by
  have TS := tx_size l
  have hlen : ((tx l).size : Int) = 8 := by omega
  have HH := keep (show hv8 l = valF 0 l by unfold hv8; rw [if_pos h8])
  go_enter Tryz.func65, Tryz.ntmps65
  go_wp2_with fail
  go_loopw [4, 5] (fun vv ii wr => ∃ (i a : Nat), vv = .int .i64 a ∧ ii = .int .i64 i ∧ i ≤ 8 ∧ Kept (a < 16 ^ i ∧ valF a (l.drop i) = hv8 l) ∧ wr = w) (fun _ ii _ => 8 - (intOf ii).toNat)
  case atStart => exact ⟨0, 0, rfl, rfl, by omega, keep ⟨by omega, HH.out.symm⟩, rfl⟩
  case round =>
    obtain ⟨i, a, rfl, rfl, hi, hk, hwr⟩ := hrel
    have hwr := hwr.symm
    subst hwr
    obtain ⟨hai, ha⟩ := hk.out
    clear hk
    by_cases hlt : i < 8
    · have hltI : (i : Int) < 8 := by omega
      have his : i < (tx l).size := by omega
      have hit : i < l.length := by omega
      have hdr : l.drop i = (tx l)[i] :: l.drop (i + 1) := List.drop_eq_getElem_cons hit
      have hc256 : (tx l)[i].toNat < 256 := (tx l)[i].toNat_lt
      have DC := dv_cases (tx l)[i]
      have aB : a < 268435456 := by
        have le : 16 ^ i ≤ 16 ^ 7 := Nat.pow_le_pow_right (by omega) (by omega)
        have e8 : 16 ^ 7 = 268435456 := by decide
        omega
      rw [hdr] at ha
      have w16 : IntKind.i64.wrap (16 * (a : Int)) = 16 * (a : Int) := IntWalk.i64_in _ ⟨by omega, by omega⟩
      rcases DC with ⟨d1, d2, d3⟩ | ⟨d1, d2, d3⟩ | ⟨d1, d2, d3⟩
      · have HN := keep (show 16 * a + ((tx l)[i].toNat - 48) < 16 ^ (i + 1) ∧ valF (16 * a + ((tx l)[i].toNat - 48)) (l.drop (i + 1)) = hv8 l from ⟨(step_ok hai hlt (by omega)).1, by rw [← ha]; exact (valF_step d3).symm⟩)
        clear ha hai hdr d3
        have h1 : (48 : Int) ≤ ((tx l)[i].toNat : Int) := by omega
        have h2 : ((tx l)[i].toNat : Int) ≤ 57 := by omega
        have h3 : ¬ (97 : Int) ≤ ((tx l)[i].toNat : Int) := by omega
        have ws : IntKind.u8.wrap (((tx l)[i].toNat : Int) - 48) = ((tx l)[i].toNat : Int) - 48 := IntWalk.u8_in _ ⟨by omega, by omega⟩
        have wc : IntKind.i64.wrap (((tx l)[i].toNat : Int) - 48) = ((tx l)[i].toNat : Int) - 48 := IntWalk.i64_in _ ⟨by omega, by omega⟩
        have h4 : ¬ (((tx l)[i].toNat : Int) - 48 < 0) := by omega
        have wa : IntKind.i64.wrap (16 * (a : Int) + (((tx l)[i].toNat : Int) - 48)) = 16 * (a : Int) + (((tx l)[i].toNat : Int) - 48) := IntWalk.i64_in _ ⟨by omega, by omega⟩
        go_wp2_with fail
        go_roundw
        case rel => exact ⟨i + 1, 16 * a + ((tx l)[i].toNat - 48), by congr 1; omega, by go_num, by omega, HN, by first | trivial | rfl⟩
        case measure => simp [intOf]; omega
      · have HN := keep (show 16 * a + ((tx l)[i].toNat - 87) < 16 ^ (i + 1) ∧ valF (16 * a + ((tx l)[i].toNat - 87)) (l.drop (i + 1)) = hv8 l from ⟨(step_ok hai hlt (by omega)).1, by rw [← ha]; exact (valF_step d3).symm⟩)
        clear ha hai hdr d3
        have h1 : (48 : Int) ≤ ((tx l)[i].toNat : Int) := by omega
        have h2 : ¬ ((tx l)[i].toNat : Int) ≤ 57 := by omega
        have h3 : (97 : Int) ≤ ((tx l)[i].toNat : Int) := by omega
        have h3' : ((tx l)[i].toNat : Int) ≤ 102 := by omega
        have ws : IntKind.u8.wrap (((tx l)[i].toNat : Int) - 97) = ((tx l)[i].toNat : Int) - 97 := IntWalk.u8_in _ ⟨by omega, by omega⟩
        have wc : IntKind.i64.wrap (((tx l)[i].toNat : Int) - 97) = ((tx l)[i].toNat : Int) - 97 := IntWalk.i64_in _ ⟨by omega, by omega⟩
        have wc2 : IntKind.i64.wrap (((tx l)[i].toNat : Int) - 97 + 10) = ((tx l)[i].toNat : Int) - 97 + 10 := IntWalk.i64_in _ ⟨by omega, by omega⟩
        have h4 : ¬ (((tx l)[i].toNat : Int) - 97 + 10 < 0) := by omega
        have wa : IntKind.i64.wrap (16 * (a : Int) + (((tx l)[i].toNat : Int) - 97 + 10)) = 16 * (a : Int) + (((tx l)[i].toNat : Int) - 97 + 10) := IntWalk.i64_in _ ⟨by omega, by omega⟩
        go_wp2_with fail
        go_roundw
        case rel => exact ⟨i + 1, 16 * a + ((tx l)[i].toNat - 87), by congr 1; omega, by go_num, by omega, HN, by first | trivial | rfl⟩
        case measure => simp [intOf]; omega
      · have HN := keep (show goodw l = none by unfold goodw; rw [← ha, valF_stop d3]; rfl)
        clear ha hai hdr d3
        have fin : ∀ (e : Ending), e = .returned (.tuple #[.float .f32 0, .bool false]) → RBs l e := fun e h => ⟨0, false, by omega, by rw [HN.out]; rfl, (fun v h => by rw [HN.out] at h; cases h), h⟩
        have FI := keep fin
        clear fin
        by_cases q1 : (tx l)[i].toNat < 48
        · have h1 : ¬ (48 : Int) ≤ ((tx l)[i].toNat : Int) := by omega
          have h3 : ¬ (97 : Int) ≤ ((tx l)[i].toNat : Int) := by omega
          go_wp2_with fail
          go_ret2
          exact ⟨FI.out _ rfl, rfl⟩
        · have h1 : (48 : Int) ≤ ((tx l)[i].toNat : Int) := by omega
          have h2 : ¬ ((tx l)[i].toNat : Int) ≤ 57 := by omega
          by_cases q3 : (tx l)[i].toNat < 97
          · have h3 : ¬ (97 : Int) ≤ ((tx l)[i].toNat : Int) := by omega
            go_wp2_with fail
            go_ret2
            exact ⟨FI.out _ rfl, rfl⟩
          · have h3 : (97 : Int) ≤ ((tx l)[i].toNat : Int) := by omega
            have h3' : ¬ ((tx l)[i].toNat : Int) ≤ 102 := by omega
            go_wp2_with fail
            go_ret2
            exact ⟨FI.out _ rfl, rfl⟩
    · have hlt2 : ¬ (i : Int) < 8 := by omega
      have hi8 : i = 8 := by omega
      subst hi8
      have e8 : 16 ^ 8 = 4294967296 := by decide
      have hV := keep (show hv8 l = some a by rw [← ha, List.drop_eq_nil_of_le (by omega)]; rfl)
      have hA : a < 4294967296 := by omega
      clear hai ha e8
      have LF := keep (fun w => l01From_b a w hA)
      have LB := keep (fun w => l01Bits_cb a w hA)
      have GW := keep (show goodw l = if cb a = a then some a else none by unfold goodw; rw [hV.out]; rfl)
      clear hV
      by_cases hq : cb a = a
      · have hn : ((cb a : Int) == (a : Int)) = true := by rw [hq]; simp
        go_wp2_with (first | (go_at_call 39; refine (LF.out _).mono ?_; rintro e w' ⟨rfl, hw'⟩; subst hw') | (go_at_call 40; refine (LB.out _).mono ?_; rintro e w' ⟨rfl, hw'⟩; subst hw'))
        go_ret2
        rw [if_pos hq] at GW
        exact ⟨⟨a, true, hA, by rw [GW.out]; rfl, (fun v h => by rw [GW.out] at h; exact Option.some.inj h), rfl⟩, rfl⟩
      · have hn : ((cb a : Int) == (a : Int)) = false := by rw [beq_eq_false_iff_ne]; omega
        go_wp2_with (first | (go_at_call 39; refine (LF.out _).mono ?_; rintro e w' ⟨rfl, hw'⟩; subst hw') | (go_at_call 40; refine (LB.out _).mono ?_; rintro e w' ⟨rfl, hw'⟩; subst hw'))
        go_ret2
        rw [if_neg hq] at GW
        exact ⟨⟨0, false, by omega, by rw [GW.out]; rfl, (fun v h => by rw [GW.out] at h; cases h), rfl⟩, rfl⟩
end Go.Proofs.YtdkjaffnkgbcnaaGreatDoor
