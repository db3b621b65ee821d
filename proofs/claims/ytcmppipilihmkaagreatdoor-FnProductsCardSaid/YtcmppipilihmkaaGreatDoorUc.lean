/- Contract: the library's ParseUint at base 16 and 32 bits: eight lowercase digits give their word; whatever else gives an error or some word. -/
import Derived.Test.YtcmppipilihmkaaGreatDoorUb
import Derived.Lib.ConvBytes
import Derived.Lib.SmallJoins
namespace Go.Proofs.YtcmppipilihmkaaGreatDoor
open Go.RowKit Go.Sort
set_option linter.unusedSimpArgs false

/-- The value of a lowercase digit; of some. -/
def dv (b : UInt8) : Option Nat := if 48 ≤ b.toNat ∧ b.toNat ≤ 57 then some (b.toNat - 48) else if 97 ≤ b.toNat ∧ b.toNat ≤ 102 then some (b.toNat - 87) else none
def valF : Nat → List UInt8 → Option Nat
  | n, [] => some n
  | n, b :: r => match dv b with
    | some d => valF (16 * n + d) r
    | none => none
def hv8 (l : List UInt8) : Option Nat := if l.length = 8 then valF 0 l else none
theorem dv_lt {b : UInt8} {d : Nat} (h : dv b = some d) : d < 16 := by
  unfold dv at h
  split at h
  · injection h with h; omega
  · split at h
    · injection h with h; omega
    · cases h
theorem valF_cons {n v : Nat} {b : UInt8} {r : List UInt8} (h : valF n (b :: r) = some v) : ∃ d, dv b = some d ∧ valF (16 * n + d) r = some v := by
  unfold valF at h
  cases hd : dv b with
  | none => rw [hd] at h; cases h
  | some d => rw [hd] at h; exact ⟨d, rfl, h⟩

/-- What ParseUint says. -/
def PU (l : List UInt8) (e : Ending) : Prop := (∃ (m k : Nat), (k = 1 ∨ k = 2) ∧ hv8 l = none ∧ e = .returned (.tuple #[.int .u64 m, .iface 138 (.int .i64 k)])) ∨ (∃ m : Nat, m < 4294967296 ∧ (∀ v, hv8 l = some v → m = v) ∧ e = .returned (.tuple #[.int .u64 m, .nilIface]))

theorem step_ok {a i d : Nat} (h : a < 16 ^ i) (hi : i < 8) (hd : d < 16) : 16 * a + d < 16 ^ (i + 1) ∧ 16 * a + d < 4294967296 := by
  have e : 16 ^ (i + 1) = 16 ^ i * 16 := Nat.pow_succ ..
  have le : 16 ^ (i + 1) ≤ 16 ^ 8 := Nat.pow_le_pow_right (by omega) (by omega)
  have e8 : 16 ^ 8 = 4294967296 := by decide
  omega

theorem or32_all : ∀ c : Fin 256, 0 ≤ bits .or .u8 (c.val : Int) 32 ∧ bits .or .u8 (c.val : Int) 32 < 256 ∧ (97 ≤ c.val ∧ c.val ≤ 102 → bits .or .u8 (c.val : Int) 32 = (c.val : Int)) := by decide +kernel

set_option maxHeartbeats 8000000 in
set_option maxRecDepth 20000 in
theorem iParseUint_16 (l : List UInt8) (w : World) (hne : l ≠ []) (hmax : l.length ≤ 1100000) :
    Calls Tryz.prog 100 #[.string (tx l), .int .i64 16, .int .i64 32] w fun e w' => PU l e ∧ Below w.heap.size w w' := by
  have hemp : (tx l).toList.isEmpty = false := by
    rw [Lib.toList_data, tx_bytes]
    cases l with
    | nil => exact absurd rfl hne
    | cons _ _ => rfl
  have TS := tx_size l
  have hcv := Lib.run_convert_string_bytes (P := Tryz.prog) w 9 22 5 (tx l) (u := .string) Tryz.underlying9 Tryz.underlying22 Tryz.underlying5
  have HB := keep (fun j (hj : j < l.length) => (show (Lib.bytesWorld w 5 (tx l)).cell? ⟨w.heap.size, j, none⟩ = some (.int .u8 (l[j].toNat : Int)) by
    rw [Lib.bytesWorld_cell w 5 (tx l) j (by omega), tx_bytes, List.getD_eq_getElem?_getD, List.getElem?_eq_getElem hj]; rfl))
  have BW := keep (Joins.below_bytesWorld w.heap.size w 5 (tx l) (Nat.le_refl _))
  have LW := keep (fun c w => Tryz.internal_strconv_lower c w)
  have hmv : IntKind.u64.wrap (IntKind.u64.wrap 4294967296 - 1) = 4294967295 := by decide +kernel
  generalize Lib.bytesWorld w 5 (tx l) = W1 at *
  clear hne
  go_enter Tryz.func100, Tryz.ntmps100
  go_wp2_with fail
  go_loopw [12, 13, 101] (fun uu nn ii wr => ∃ (i a : Nat) (ai : Int), uu = .bool false ∧ nn = .int .u64 ai ∧ ii = .int .i64 i ∧ i ≤ l.length ∧ Kept (ai = (a : Int) ∧ a < 4294967296 ∧ (∀ v, hv8 l = some v → valF a (l.drop i) = some v ∧ a < 16 ^ i)) ∧ wr = W1) (fun _ _ ii _ => l.length - (intOf ii).toNat)
  case atStart => exact ⟨0, 0, 0, rfl, rfl, rfl, by omega, keep ⟨rfl, by omega, fun v h => by
    unfold hv8 at h
    split at h
    · exact ⟨h, by omega⟩
    · cases h⟩, rfl⟩
  case round =>
    obtain ⟨i, a, ai, rfl, rfl, rfl, hi, hk, hwr⟩ := hrel
    have hwr := hwr.symm
    subst hwr
    obtain ⟨hai, ha, hv⟩ := hk.out
    have a0 : 0 ≤ ai := by omega
    have a1 : ai < 4294967296 := by omega
    clear hk
    by_cases hlt : i < l.length
    · have hltI : (i : Int) < (l.length : Int) := by omega
      have hc := HB.out i hlt
      have hdr : l.drop i = l[i] :: l.drop (i + 1) := List.drop_eq_getElem_cons hlt
      have hc256 : l[i].toNat < 256 := l[i].toNat_lt
      have hor := or32_all ⟨l[i].toNat, hc256⟩
      simp only at hor
      have HV := keep (fun v (h : hv8 l = some v) => (show ∃ d, dv l[i] = some d ∧ valF (16 * a + d) (l.drop (i + 1)) = some v ∧ a < 16 ^ i ∧ i < 8 by
        obtain ⟨h1, h2⟩ := hv v h
        rw [hdr] at h1
        obtain ⟨d, h3, h4⟩ := valF_cons h1
        refine ⟨d, h3, h4, h2, ?_⟩
        unfold hv8 at h
        split at h
        · omega
        · cases h))
      have CX := keep hc
      have AI := keep hai
      have AH := keep ha
      have cb : (l[i].toNat : Int) < 256 := by omega
      obtain ⟨or0, or1, or2⟩ := hor
      have DV := keep (show ∀ d, dv l[i] = some d → (48 ≤ l[i].toNat ∧ l[i].toNat ≤ 57 ∧ d = l[i].toNat - 48) ∨ (97 ≤ l[i].toNat ∧ l[i].toNat ≤ 102 ∧ d = l[i].toNat - 87) from fun d h => by
        unfold dv at h
        split at h
        · injection h with h; left; omega
        · split at h
          · injection h with h; right; omega
          · cases h)
      have OR2 := keep or2
      clear hdr hv hai ha or2
      generalize l[i].toNat = c at *
      have nun : ((c : Int) == 95) = (decide (c = 95)) := by rw [Bool.eq_iff_iff]; simp; omega
      -- the end of a round: the digit is told
      by_cases hA : 48 ≤ c ∧ c ≤ 57
      · have n95 : ((c : Int) == 95) = false := by rw [beq_eq_false_iff_ne]; omega
        clear nun
        have h48 : (48 : Int) ≤ (c : Int) := by omega
        have h57 : (c : Int) ≤ 57 := by omega
        have ws : IntKind.u8.wrap ((c : Int) - 48) = (c : Int) - 48 := IntWalk.u8_in _ ⟨by omega, by omega⟩
        have h16 : ¬ (16 : Int) ≤ (c : Int) - 48 := by omega
        have hco : ¬ (1152921504606846976 : Int) ≤ ai := by omega
        have wm : IntKind.u64.wrap (ai * 16) = ai * 16 := IntWalk.u64_in _ ⟨by omega, by omega⟩
        have wc : IntKind.u64.wrap ((c : Int) - 48) = (c : Int) - 48 := IntWalk.u64_in _ ⟨by omega, by omega⟩
        have wa : IntKind.u64.wrap (ai * 16 + ((c : Int) - 48)) = ai * 16 + ((c : Int) - 48) := IntWalk.u64_in _ ⟨by omega, by omega⟩
        have hl1 : ¬ ai * 16 + ((c : Int) - 48) < ai * 16 := by omega
        have GD := keep (fun v (h : hv8 l = some v) => (show valF (16 * a + (c - 48)) (l.drop (i + 1)) = some v ∧ a < 16 ^ i ∧ i < 8 by
          obtain ⟨d, h1, h2, h3, h4⟩ := HV.out v h
          rcases DV.out d h1 with ⟨_, _, rfl⟩ | ⟨_, _, _⟩
          · exact ⟨h2, h3, h4⟩
          · omega))
        by_cases hbig : 4294967295 < ai * 16 + ((c : Int) - 48)
        · go_wp2_with (fail)
          go_ret2
          refine ⟨.inl ⟨4294967295, 1, .inl rfl, ?_, rfl⟩, BW.out⟩
          have HG := GD.out
          have e1 := AI.out
          cases hh : hv8 l with
          | none => rfl
          | some v =>
            obtain ⟨h1, h2, h3⟩ := HG v hh
            have h4 := (step_ok h2 h3 (d := (c - 48)) (by omega)).2
            omega
        · go_wp2_with (fail)
          go_roundw
          case rel =>
            refine ⟨i + 1, 16 * a + (c - 48), ai * 16 + ((c : Int) - 48), rfl, rfl, by go_num, by omega, keep ⟨?_, ?_, ?_⟩, by first | trivial | rfl⟩
            · have e1 := AI.out
              omega
            · have e1 := AI.out
              omega
            · intro v hh
              obtain ⟨h1, h2, h3⟩ := GD.out v hh
              exact ⟨h1, (step_ok h2 h3 (d := (c - 48)) (by omega)).1⟩
          case measure => simp [intOf]; omega
      · have LL := keep (fun w => LW.out (c : Int) w)
        generalize hL : bits .or .u8 (c : Int) 32 = L at *
        have HL := keep hL
        clear hL nun
        have hA' : (¬ (48 : Int) ≤ (c : Int)) ∨ ((48 : Int) ≤ (c : Int) ∧ ¬ (c : Int) ≤ 57) := by omega
        have h95 : ((c : Int) == 95) = true ∨ ((c : Int) == 95) = false := by cases ((c : Int) == 95) <;> simp
        by_cases hB : 97 ≤ L ∧ L ≤ 122
        · obtain ⟨hB1, hB2⟩ := hB
          have ws : IntKind.u8.wrap (L - 97) = L - 97 := IntWalk.u8_in _ ⟨by omega, by omega⟩
          have ws2 : IntKind.u8.wrap (L - 97 + 10) = L - 97 + 10 := IntWalk.u8_in _ ⟨by omega, by omega⟩
          by_cases h16 : 16 ≤ L - 97 + 10
          · have NG := keep (show hv8 l = none by
              cases hh : hv8 l with
              | none => rfl
              | some v =>
                obtain ⟨d, h1, h2, h3, h4⟩ := HV.out v hh
                rcases DV.out d h1 with ⟨_, _, rfl⟩ | ⟨h5, h6, _⟩
                · omega
                · have := OR2.out ⟨h5, h6⟩
                  omega)
            clear OR2 DV HV HL
            rcases hA' with q | ⟨q, q2⟩ <;> rcases h95 with q3 | q3
            all_goals
              go_wp2_with (first | (go_at_call 115; refine (LL.out _).mono ?_; rintro e w' ⟨rfl, hw'⟩; subst hw'))
              go_ret2
              exact ⟨.inl ⟨0, 2, .inr rfl, NG.out, rfl⟩, BW.out⟩
          · have hco : ¬ (1152921504606846976 : Int) ≤ ai := by omega
            have wm : IntKind.u64.wrap (ai * 16) = ai * 16 := IntWalk.u64_in _ ⟨by omega, by omega⟩
            have wc : IntKind.u64.wrap (L - 97 + 10) = L - 97 + 10 := IntWalk.u64_in _ ⟨by omega, by omega⟩
            have wa : IntKind.u64.wrap (ai * 16 + (L - 97 + 10)) = ai * 16 + (L - 97 + 10) := IntWalk.u64_in _ ⟨by omega, by omega⟩
            have hl1 : ¬ ai * 16 + (L - 97 + 10) < ai * 16 := by omega
            have GD := keep (fun v (h : hv8 l = some v) => (show valF (16 * a + (L - 97 + 10).toNat) (l.drop (i + 1)) = some v ∧ a < 16 ^ i ∧ i < 8 by
              obtain ⟨d, h1, h2, h3, h4⟩ := HV.out v h
              rcases DV.out d h1 with ⟨_, _, rfl⟩ | ⟨h5, h6, rfl⟩
              · omega
              · have := OR2.out ⟨h5, h6⟩
                rw [show (L - 97 + 10).toNat = c - 87 by omega]
                exact ⟨h2, h3, h4⟩))
            clear OR2 DV HV HL
            rcases hA' with q | ⟨q, q2⟩ <;> rcases h95 with q3 | q3
            all_goals
              by_cases hbig : 4294967295 < ai * 16 + (L - 97 + 10)
              · go_wp2_with (first | (go_at_call 115; refine (LL.out _).mono ?_; rintro e w' ⟨rfl, hw'⟩; subst hw'))
                go_ret2
                refine ⟨.inl ⟨4294967295, 1, .inl rfl, ?_, rfl⟩, BW.out⟩
                have HG := GD.out
                have e1 := AI.out
                cases hh : hv8 l with
                | none => rfl
                | some v =>
                  obtain ⟨h1, h2, h3⟩ := HG v hh
                  have h4 := (step_ok h2 h3 (d := (L - 97 + 10).toNat) (by omega)).2
                  omega
              · go_wp2_with (first | (go_at_call 115; refine (LL.out _).mono ?_; rintro e w' ⟨rfl, hw'⟩; subst hw'))
                go_roundw
                case rel =>
                  refine ⟨i + 1, 16 * a + (L - 97 + 10).toNat, ai * 16 + (L - 97 + 10), rfl, rfl, by go_num, by omega, keep ⟨?_, ?_, ?_⟩, by first | trivial | rfl⟩
                  · have e1 := AI.out
                    omega
                  · have e1 := AI.out
                    omega
                  · intro v hh
                    obtain ⟨h1, h2, h3⟩ := GD.out v hh
                    exact ⟨h1, (step_ok h2 h3 (d := (L - 97 + 10).toNat) (by omega)).1⟩
                case measure => simp [intOf]; omega
        · have hB' : (¬ (97 : Int) ≤ L) ∨ ((97 : Int) ≤ L ∧ ¬ L ≤ 122) := by omega
          have NG := keep (show hv8 l = none by
            cases hh : hv8 l with
            | none => rfl
            | some v =>
              obtain ⟨d, h1, h2, h3, h4⟩ := HV.out v hh
              rcases DV.out d h1 with ⟨_, _, rfl⟩ | ⟨h5, h6, _⟩
              · omega
              · have := OR2.out ⟨h5, h6⟩
                omega)
          clear OR2 DV HV HL
          rcases hB' with p | ⟨p, p2⟩ <;> rcases hA' with q | ⟨q, q2⟩ <;> rcases h95 with q3 | q3
          all_goals
            go_wp2_with (first | (go_at_call 115; refine (LL.out _).mono ?_; rintro e w' ⟨rfl, hw'⟩; subst hw'))
            go_ret2
            exact ⟨.inl ⟨0, 2, .inr rfl, NG.out, rfl⟩, BW.out⟩
    · obtain rfl : i = l.length := by omega
      have HV := keep hv
      have AI := keep hai
      have AH := keep ha
      clear hv hai ha
      go_wp2_with fail
      go_ret2
      refine ⟨.inr ⟨a, AH.out, fun v h => ?_, by rw [← AI.out]; rfl⟩, BW.out⟩
      have h2 := (HV.out v h).1
      rw [List.drop_length] at h2
      exact Option.some.inj h2
end Go.Proofs.YtcmppipilihmkaaGreatDoor
