/- Contracts: the reference's reading of a whole number. -/
import Derived.Test.YtdkjaffnkgbcnaaGreatDoorYbN
import Derived.Test.YtdkjaffnkgbcnaaGreatDoorYc
namespace Go.Proofs.YtdkjaffnkgbcnaaGreatDoor
open Go.RowKit Go.Sort
set_option linter.unusedSimpArgs false
set_option linter.unusedVariables false

theorem l01Dec_gen (n : Int) (w : World) (h : okV n = true) : Calls Tryz.prog 63 #[.int .i64 n] w fun e w' => e = .returned (.string (tx (Lib.itoa n))) ∧ Below w.heap.size w w' := by
  have hb := okV_b h
  by_cases h0 : n < 0
  · have h1 := l01Dec_neg n.natAbs w (by omega) (by omega)
    rw [show -((n.natAbs : Nat) : Int) = n by omega] at h1
    exact h1
  · have h1 := l01Dec_pos n.toNat w (by omega)
    rw [show ((n.toNat : Nat) : Int) = n by omega] at h1
    exact h1
theorem pow10_more {a k d : Nat} (h : a < 10 ^ k) (hd : d < 10) : 10 * a + d < 10 ^ (k + 1) := by
  have e : 10 ^ (k + 1) = 10 ^ k * 10 := Nat.pow_succ ..
  omega

set_option maxHeartbeats 8000000 in
set_option maxRecDepth 20000 in
theorem l01Value_any (p : List UInt8) (w : World) (hp : p.length ≤ 1100000) :
    Calls Tryz.prog 38 #[.string (tx p)] w fun e w' => OV goodd dvv p e ∧ Below w.heap.size w w' := by
  have TP := tx_size p
  by_cases h1 : p.length < 1
  · have GN := keep (show goodd p = none by unfold goodd; rw [if_neg (by omega)])
    have q1 : ((tx p).size : Int) < 1 := by omega
    clear h1 hp TP
    go_enter Tryz.func38, Tryz.ntmps38
    go_wp2_with fail
    go_ret2
    exact ⟨.inr ⟨_, GN.out, rfl⟩, Below.refl _ _⟩
  by_cases h2 : 17 < p.length
  · have GN := keep (show goodd p = none by unfold goodd; rw [if_neg (by omega)])
    have q1 : ¬ ((tx p).size : Int) < 1 := by omega
    have q2 : (17 : Int) < ((tx p).size : Int) := by omega
    clear h1 h2 hp TP
    go_enter Tryz.func38, Tryz.ntmps38
    go_wp2_with fail
    go_ret2
    exact ⟨.inr ⟨_, GN.out, rfl⟩, Below.refl _ _⟩
  have IN := keep (fun n w => l00In_any n (-1000000000000000) 1000000000000000 w)
  have LD := keep (fun n w h => l01Dec_gen n w h)
  have k2 : (tx p).toList = p := by rw [Lib.toList_data, tx_bytes]
  have q1 : ¬ ((tx p).size : Int) < 1 := by omega
  have q2 : ¬ (17 : Int) < ((tx p).size : Int) := by omega
  go_enter Tryz.func38, Tryz.ntmps38
  go_wp2_with fail
  go_loopw [4, 5] (fun vv ii wq => ∃ (k a : Nat), vv = .int .i64 a ∧ ii = .int .i64 k ∧ k ≤ p.length ∧ Kept (a < 10 ^ k ∧ dsum a (p.drop k) = dsum 0 p) ∧ wq = w) (fun _ ii _ => p.length - (intOf ii).toNat)
  case atStart => exact ⟨0, 0, rfl, rfl, by omega, keep ⟨by decide, rfl⟩, rfl⟩
  case round =>
    obtain ⟨k, a, rfl, rfl, hk, hkk, hwr⟩ := hrel
    have hwr := hwr.symm
    subst hwr
    obtain ⟨hai, ha⟩ := hkk.out
    clear hkk
    have aB : a < 100000000000000000 := by
      have le : 10 ^ k ≤ 10 ^ 17 := Nat.pow_le_pow_right (by omega) (by omega)
      have e8 : 10 ^ 17 = 100000000000000000 := by decide
      omega
    by_cases hklt : k < p.length
    · have hltI : (k : Int) < ((tx p).size : Int) := by omega
      have his : k < (tx p).size := by omega
      have hdr : p.drop k = (tx p)[k] :: p.drop (k + 1) := List.drop_eq_getElem_cons hklt
      rw [hdr, dsum_cons] at ha
      have hc256 : (tx p)[k].toNat < 256 := (tx p)[k].toNat_lt
      have hup : a < 10 ^ (k + 1) := by
        have e : 10 ^ (k + 1) = 10 ^ k * 10 := Nat.pow_succ ..
        omega
      by_cases d1 : 48 ≤ (tx p)[k].toNat
      · have h3 : (48 : Int) ≤ ((tx p)[k].toNat : Int) := by omega
        by_cases d2 : (tx p)[k].toNat ≤ 57
        · have h4 : ((tx p)[k].toNat : Int) ≤ 57 := by omega
          rw [if_pos ⟨d1, d2⟩] at ha
          have HN := keep (And.intro (pow10_more (d := (tx p)[k].toNat - 48) hai (by omega)) ha)
          have ws : IntKind.u8.wrap (((tx p)[k].toNat : Int) - 48) = ((tx p)[k].toNat : Int) - 48 := IntWalk.u8_in _ ⟨by omega, by omega⟩
          have wc : IntKind.i64.wrap (((tx p)[k].toNat : Int) - 48) = ((tx p)[k].toNat : Int) - 48 := IntWalk.i64_in _ ⟨by omega, by omega⟩
          have w10 : IntKind.i64.wrap (10 * (a : Int)) = 10 * (a : Int) := IntWalk.i64_in _ ⟨by omega, by omega⟩
          have wa : IntKind.i64.wrap (10 * (a : Int) + (((tx p)[k].toNat : Int) - 48)) = 10 * (a : Int) + (((tx p)[k].toNat : Int) - 48) := IntWalk.i64_in _ ⟨by omega, by omega⟩
          clear ha hai hdr hup
          go_wp2_with fail
          go_roundw
          case rel => exact ⟨k + 1, 10 * a + ((tx p)[k].toNat - 48), by congr 1; omega, by go_num, by omega, HN, trivial⟩
          case measure => simp [intOf]; omega
        · have h4 : ¬ ((tx p)[k].toNat : Int) ≤ 57 := by omega
          rw [if_neg (fun h => d2 h.2)] at ha
          have HN := keep (And.intro hup ha)
          clear ha hai hdr hup
          go_wp2_with fail
          go_roundw
          case rel => exact ⟨k + 1, a, rfl, by go_num, by omega, HN, trivial⟩
          case measure => simp [intOf]; omega
      · have h3 : ¬ (48 : Int) ≤ ((tx p)[k].toNat : Int) := by omega
        rw [if_neg (fun h => d1 h.1)] at ha
        have HN := keep (And.intro hup ha)
        clear ha hai hdr hup
        go_wp2_with fail
        go_roundw
        case rel => exact ⟨k + 1, a, rfl, by go_num, by omega, HN, trivial⟩
        case measure => simp [intOf]; omega
    · have hltI : ¬ (k : Int) < ((tx p).size : Int) := by omega
      have ha2 : a = dsum 0 p := by
        rw [List.drop_eq_nil_of_le (by omega)] at ha
        exact ha
      have his : 0 < (tx p).size := by omega
      have h0p : 0 < p.length := by omega
      have hhd : p.head? = some (tx p)[0] := by
        rw [List.head?_eq_getElem?, List.getElem?_eq_getElem h0p]; rfl
      have VD0 : valD p = if (tx p)[0] = 45 then -(a : Int) else (a : Int) := by
        unfold valD
        rw [hhd, ha2]
        by_cases h : (tx p)[0] = 45
        · rw [if_pos h, if_pos (by rw [h])]
        · rw [if_neg h, if_neg (by intro e; exact h (Option.some.inj e))]
      clear ha hai hhd ha2
      by_cases h45 : (tx p)[0] = 45
      · have VD := keep (show valD p = -(a : Int) by rw [VD0, if_pos h45])
        have hq45 : (((tx p)[0].toNat : Int) == 45) = true := by rw [h45]; rfl
        clear VD0 h45
        have hin := fun w => IN.out (-(a : Int)) w
        cases hok : okV (-(a : Int))
        · rw [show (decide (-1000000000000000 ≤ (-(a : Int))) && decide ((-(a : Int)) ≤ 1000000000000000)) = false from hok] at hin
          have HI := keep hin
          have GN := keep (show goodd p = none by unfold goodd; rw [VD.out, hok]; simp)
          clear hin hok
          go_wp2_with fail
          refine (HI.out _).mono ?_
          rintro e w2 ⟨rfl, hw2⟩
          have hw2 := hw2.symm
          subst hw2
          go_wp2_with fail
          go_ret2
          exact ⟨.inr ⟨_, GN.out, rfl⟩, Below.refl _ _⟩
        · rw [show (decide (-1000000000000000 ≤ (-(a : Int))) && decide ((-(a : Int)) ≤ 1000000000000000)) = true from hok] at hin
          have HI := keep hin
          have LD1 := keep (LD.out (-(a : Int)) w hok)
          have k1 : (tx (Lib.itoa (-(a : Int)))).toList = Lib.itoa (-(a : Int)) := by rw [Lib.toList_data, tx_bytes]
          by_cases hit : Lib.itoa (-(a : Int)) = p
          · have hq : (Lib.itoa (-(a : Int)) == p) = true := by rw [hit]; simp
            have GS := keep (goodd_of hok hit)
            clear hin hok hit
            go_wp2_with fail
            refine (HI.out _).mono ?_
            rintro e w2 ⟨rfl, hw2⟩
            have hw2 := hw2.symm
            subst hw2
            go_wp2_with fail
            refine LD1.out.mono ?_
            rintro e w2 ⟨rfl, hb2⟩
            have HB2 := keep hb2
            clear hb2
            go_wp2_with fail
            go_ret2
            exact ⟨.inl ⟨_, GS.out, rfl⟩, HB2.out⟩
          · have hq : (Lib.itoa (-(a : Int)) == p) = false := by rw [beq_eq_false_iff_ne]; exact hit
            have GN := keep (show goodd p = none by unfold goodd; rw [VD.out, if_neg (fun h => hit h.2.2.2)])
            clear hin hok hit
            go_wp2_with fail
            refine (HI.out _).mono ?_
            rintro e w2 ⟨rfl, hw2⟩
            have hw2 := hw2.symm
            subst hw2
            go_wp2_with fail
            refine LD1.out.mono ?_
            rintro e w2 ⟨rfl, hb2⟩
            have HB2 := keep hb2
            clear hb2
            go_wp2_with fail
            go_ret2
            exact ⟨.inr ⟨_, GN.out, rfl⟩, HB2.out⟩
      · have VD := keep (show valD p = (a : Int) by rw [VD0, if_neg h45])
        have hq45 : (((tx p)[0].toNat : Int) == 45) = false := by
          rw [beq_eq_false_iff_ne]
          intro h
          exact h45 (UInt8.toNat_inj.1 (by show (tx p)[0].toNat = 45; omega))
        clear VD0 h45
        have hin := fun w => IN.out ((a : Int)) w
        cases hok : okV ((a : Int))
        · rw [show (decide (-1000000000000000 ≤ ((a : Int))) && decide (((a : Int)) ≤ 1000000000000000)) = false from hok] at hin
          have HI := keep hin
          have GN := keep (show goodd p = none by unfold goodd; rw [VD.out, hok]; simp)
          clear hin hok
          go_wp2_with fail
          refine (HI.out _).mono ?_
          rintro e w2 ⟨rfl, hw2⟩
          have hw2 := hw2.symm
          subst hw2
          go_wp2_with fail
          go_ret2
          exact ⟨.inr ⟨_, GN.out, rfl⟩, Below.refl _ _⟩
        · rw [show (decide (-1000000000000000 ≤ ((a : Int))) && decide (((a : Int)) ≤ 1000000000000000)) = true from hok] at hin
          have HI := keep hin
          have LD1 := keep (LD.out ((a : Int)) w hok)
          have k1 : (tx (Lib.itoa ((a : Int)))).toList = Lib.itoa ((a : Int)) := by rw [Lib.toList_data, tx_bytes]
          by_cases hit : Lib.itoa ((a : Int)) = p
          · have hq : (Lib.itoa ((a : Int)) == p) = true := by rw [hit]; simp
            have GS := keep (goodd_of hok hit)
            clear hin hok hit
            go_wp2_with fail
            refine (HI.out _).mono ?_
            rintro e w2 ⟨rfl, hw2⟩
            have hw2 := hw2.symm
            subst hw2
            go_wp2_with fail
            refine LD1.out.mono ?_
            rintro e w2 ⟨rfl, hb2⟩
            have HB2 := keep hb2
            clear hb2
            go_wp2_with fail
            go_ret2
            exact ⟨.inl ⟨_, GS.out, rfl⟩, HB2.out⟩
          · have hq : (Lib.itoa ((a : Int)) == p) = false := by rw [beq_eq_false_iff_ne]; exact hit
            have GN := keep (show goodd p = none by unfold goodd; rw [VD.out, if_neg (fun h => hit h.2.2.2)])
            clear hin hok hit
            go_wp2_with fail
            refine (HI.out _).mono ?_
            rintro e w2 ⟨rfl, hw2⟩
            have hw2 := hw2.symm
            subst hw2
            go_wp2_with fail
            refine LD1.out.mono ?_
            rintro e w2 ⟨rfl, hb2⟩
            have HB2 := keep hb2
            clear hb2
            go_wp2_with fail
            go_ret2
            exact ⟨.inr ⟨_, GN.out, rfl⟩, HB2.out⟩
end Go.Proofs.YtdkjaffnkgbcnaaGreatDoor
