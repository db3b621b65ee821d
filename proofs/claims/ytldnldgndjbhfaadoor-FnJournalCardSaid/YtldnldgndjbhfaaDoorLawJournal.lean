/- The law FnJournal by its walk: of a journal that is cut, or bent, a beginning is recovered. Conditions: that the bytes can be read; that one of the library's tables holds what it is given. -/
import Derived.Test.YtldnldgndjbhfaaDoorWj
namespace Go.Proofs.YtldnldgndjbhfaaDoor
open Go.RowKit Go.Sort Ieee
set_option linter.unusedSimpArgs false
set_option linter.unusedVariables false

theorem jaft {w w' : World} {a : Option Addr} {n : Nat} (h : Bytes w a n) (hb : Below w.heap.size w w') : Bytes w' a n :=
  h.later hb (fun b o e hn => by
    obtain ⟨b', o', e', hl, _⟩ := h 0 hn
    rw [e] at e'
    injection e' with e'
    injection e' with e'
    omega)

set_option maxHeartbeats 1000000 in
theorem jAt (a : Option Addr) (n c k m : Nat) (w : World) (hb : Bytes w a n) (hk : k ≤ 100) (hm : 2 ≤ m) (hm2 : m ≤ 1000) :
    Calls Tryd.prog 8 #[.slice a n c, .int .i64 k, .int .i64 m] w fun e w' => (∃ r : Nat, r < m ∧ e = .returned (.int .i64 r)) ∧ w' = w := by
  have h1 : ¬ ((m : Int) ≤ 1) := by omega
  have hm0 : ¬ ((m : Int) = 0) := by omega
  by_cases hlt : k < n
  · obtain ⟨b, o, rfl, hbl, v, hv, hc⟩ := hb k hlt
    have hi : (k : Int) < (n : Int) := by omega
    have hr : v % m < m := Nat.mod_lt _ (by omega)
    have ht : Int.tmod (v : Int) (m : Int) = ((v % m : Nat) : Int) := by rw [Int.tmod_eq_emod_of_nonneg (by omega)]; rfl
    have hw : IntKind.i64.wrap ((v % m : Nat) : Int) = ((v % m : Nat) : Int) := IntWalk.i64_in _ ⟨by omega, by omega⟩
    have HR := keep hr
    clear hb hr hbl
    go_enter Tryd.func8, Tryd.ntmps8
    go_wp2_with fail
    go_ret
    exact ⟨⟨v % m, HR.out, by first | rfl | simp⟩, rfl⟩
  · have hi : ¬ ((k : Int) < (n : Int)) := by omega
    have hi2 : ((n : Int) ≤ (k : Int)) := by omega
    obtain ⟨v, hv⟩ : ∃ v : Nat, v = 37 * k + 11 := ⟨_, rfl⟩
    have hr : v % m < m := Nat.mod_lt _ (by omega)
    have hw1 : IntKind.i64.wrap ((k : Int) * 37) = (k : Int) * 37 := IntWalk.i64_in _ ⟨by omega, by omega⟩
    have hw2 : IntKind.i64.wrap ((k : Int) * 37 + 11) = (v : Int) := by
      rw [show (k : Int) * 37 + 11 = (v : Int) by omega]
      exact IntWalk.i64_in _ ⟨by omega, by omega⟩
    have ht : Int.tmod (v : Int) (m : Int) = ((v % m : Nat) : Int) := by rw [Int.tmod_eq_emod_of_nonneg (by omega)]; rfl
    have hw : IntKind.i64.wrap ((v % m : Nat) : Int) = ((v % m : Nat) : Int) := IntWalk.i64_in _ ⟨by omega, by omega⟩
    have HR := keep hr
    clear hb hr hv
    go_enter Tryd.func8, Tryd.ntmps8
    go_wp2_with fail
    go_ret
    exact ⟨⟨v % m, HR.out, by first | rfl | simp⟩, rfl⟩

theorem tx_at (T : List UInt8) (i : Nat) (h : i < (tx T).size) (h2 : i < T.length) : (tx T)[i] = T[i] := by
  show T.toArray[i] = T[i]
  simp
theorem tx_ten (T : List UInt8) (i : Nat) (h : i < (tx T).size) (h2 : i < T.length) : (((((tx T)[i]'h).toNat : Nat) : Int) == 10) = decide (T[i] = 10) := by
  have e0 : ((tx T)[i]'h) = T[i] := tx_at T i h h2
  simp only [e0]
  by_cases e : T[i] = 10
  · rw [e]; rfl
  · rw [decide_eq_false e, beq_eq_false_iff_ne]
    intro e2
    exact e (UInt8.toNat_inj.1 (by show T[i].toNat = 10; omega))
theorem one_byte (W : World) (r : Nat) (hr : r < 256) (t : TypeId) : (convert 22 9 (.slice (some ⟨W.heap.size, 0, none⟩) 1 1)).run Tryd.prog ((W.alloc (.cells #[.int .u8 r] t)).drew) = .ok (.string ⟨#[UInt8.ofNat r]⟩) ((W.alloc (.cells #[.int .u8 r] t)).drew) := by
  have h0 := (Has.made W t #[.int .u8 r]).cells 0
  have e : (W.alloc (.cells #[.int .u8 r] t)).drew.cell? ⟨W.heap.size, 0, none⟩ = some (.int .u8 r) := h0
  exact run_convert_bytes_back (P := Tryd.prog) _ 22 9 5 ⟨W.heap.size, 0, none⟩ 1 [UInt8.ofNat r] Tryd.underlying22 Tryd.underlying5 Tryd.underlying9 (fun j hj => by
    obtain rfl : j = 0 := by simp at hj; omega
    rw [Addr.add_lit]; exact e.trans (by simp [Nat.mod_eq_of_lt hr]))
theorem bent_bytes (a b : List UInt8) (c : UInt8) : (tx a ++ (⟨#[c]⟩ : ByteArray)) ++ tx b = tx (a ++ c :: b) := by
  have e := app_bytes (a ++ [c]) b
  have e2 := app_bytes a [c]
  unfold tx
  rw [show (⟨#[c]⟩ : ByteArray) = ⟨[c].toArray⟩ from rfl, e2, e, List.append_assoc]
  rfl
theorem u8_in (r : Nat) (h : r < 256) : IntKind.u8.wrap (r : Int) = r := by rw [IntKind.wrap_u8]; omega
theorem cnt_take (T : List UInt8) (i : Nat) (h : i < T.length) : cnt (T.take (i + 1)) = cnt (T.take i) + (if T[i] = 10 then 1 else 0) := by
  unfold cnt
  rw [List.take_succ_eq_append_getElem h, List.countP_append]
  congr 1
  by_cases e : T[i] = 10 <;> simp [e]
theorem cnt_le (l : List UInt8) : cnt l ≤ l.length := List.countP_le_length

set_option maxHeartbeats 8000000 in
set_option maxRecDepth 100000 in
theorem lawJournal_any (a1 a2 : Option Addr) (n1 c1 n2 c2 : Nat) (w : World) (hb1 : Bytes w a1 n1) (hb2 : Bytes w a2 n2) (htab : P10 w) :
    Calls Tryd.prog 3 #[.slice a1 n1 c1, .slice a2 n2 c2] w fun e w' => e = .returned (.bool true) ∧ Below w.heap.size w w' := by
  have LO := keep (fun w => zb10Long a1 a2 n1 c1 n2 c2 w)
  cases hl : (decide (1048576 < n1) || decide (1048576 < n2))
  case true =>
    rw [hl] at LO
    clear hl hb1 hb2 htab
    go_enter Tryd.func3, Tryd.ntmps3
    go_wp2_with fail
    refine (LO.out _).mono ?_
    rintro e w' ⟨rfl, rfl⟩
    go_wp2_with fail
    go_ret
    exact ⟨rfl, Below.refl _ _⟩
  case false =>
    rw [hl] at LO
    have HB1 := keep hb1
    have HB2 := keep hb2
    have HT := keep htab
    have JO := keep (fun A c ss w h1 h2 h3 => JournalOf_any A c ss w h1 h2 h3)
    have RC := keep (fun s w h => iRecover_any s w h)
    clear hl hb1 hb2 htab
    go_enter Tryd.func3, Tryd.ntmps3
    go_wp2_with fail
    refine (LO.out _).mono ?_
    rintro e w' ⟨rfl, hw⟩
    have hw := hw.symm
    subst hw
    clear LO
    go_wp2_with fail
    refine (B10Desk_ok a2 n2 c2 w HB2.out).mono ?_
    rintro e w1 ⟨W, H, ps, A, cp, mg, bk, hs, hl, -, -, -, rfl, -, hb⟩
    have B1 := keep hb
    have LN := keep (B10Lines_ok a1 n1 c1 W H cp mg bk ps.length A w1 (jaft HB1.out hb) hs.1.1 hl)
    clear hb hs hl
    go_wp2_with fail
    refine LN.out.mono ?_
    rintro e w2 ⟨L, D, d, hL, hpl, rfl, hown, hb⟩
    obtain ⟨T, hT, hjr, hT0, hsm, hcut⟩ := journal_ok L hL hpl
    have HJ := keep hcut
    have OW := keep hown
    have R2 := keep (Rd.of_own (ss := L) hown)
    have B2 := keep (B1.out.trans (hb.mono B1.out.size))
    have J2 := keep (JO.out D d L w2 R2.out hsm (pow10_stays HT.out B2.out (Nat.le_refl _)))
    unfold JOut at J2
    rw [hjr] at J2
    clear hb B1 LN hpl hown hjr hsm hcut
    go_wp2_with fail
    refine J2.out.mono ?_
    rintro e w3 ⟨rfl, hb⟩
    have OW3 := keep (owns_below OW.out hb)
    have B3 := keep (B2.out.trans (hb.mono B2.out.size))
    have TS := tx_size T
    have EX := keep (fun i => (show (tx T).extract 0 i = tx (T.take i) by rw [tx_piece, tx_bytes, List.drop_zero, Nat.sub_zero]))
    have EXb := keep (fun i => (show (tx T).extract i T.length = tx (T.drop i) by rw [tx_piece, tx_bytes, List.take_of_length_le (by rw [List.length_drop]; omega)]))
    clear hb R2 B2 J2 OW
    by_cases hz : T.length = 0
    · have hL0 := hT0 hz
      have hzI : ((T.length : Int) == 0) = true := by rw [hz]; rfl
      have hLI : ((L.length : Int) == 0) = true := by rw [hL0]; rfl
      go_wp2_with fail
      go_ret
      exact ⟨rfl, B3.out⟩
    · have hz1 : 0 < T.length := by omega
      have hzI : ((T.length : Int) == 0) = false := by rw [beq_eq_false_iff_ne]; omega
      go_wp2_with fail
      refine (jAt a2 n2 c2 0 256 _ (jaft HB2.out B3.out) (by omega) (by omega) (by omega)).mono ?_
      rintro e w' ⟨⟨r1, hr1, rfl⟩, hw⟩
      have hw := hw.symm
      subst hw
      go_wp2_with fail
      refine (jAt a2 n2 c2 1 256 _ (jaft HB2.out B3.out) (by omega) (by omega) (by omega)).mono ?_
      rintro e w' ⟨⟨r2, hr2, rfl⟩, hw⟩
      have hw := hw.symm
      subst hw
      have ha := Nat.mod_lt (r1 * 256 + r2) hz1
      have hr : Int.tmod ((r1 : Int) * 256 + (r2 : Int)) (T.length : Int) = (((r1 * 256 + r2) % T.length : Nat) : Int) := by
        rw [Int.tmod_eq_emod_of_nonneg (by omega)]
        push_cast
        rfl
      have hw1 : IntKind.i64.wrap ((r1 : Int) * 256) = (r1 : Int) * 256 := IntWalk.i64_in _ ⟨by omega, by omega⟩
      have hw2 : IntKind.i64.wrap ((r1 : Int) * 256 + (r2 : Int)) = (r1 : Int) * 256 + (r2 : Int) := IntWalk.i64_in _ ⟨by omega, by omega⟩
      have hT0 : ¬ ((T.length : Int) = 0) := by omega
      generalize hat : (r1 * 256 + r2) % T.length = at' at *
      have hw3 : IntKind.i64.wrap ((at' : Nat) : Int) = (at' : Int) := IntWalk.i64_in _ ⟨by omega, by omega⟩
      clear hat
      have haI : (at' : Int) ≤ (T.length : Int) := by omega
      obtain ⟨q, hq, hq1, hq2, hq3, hq4, hq5⟩ := HJ.out at' ha
      have HQ4 := keep hq4
      have HQ5 := keep hq5
      have EX1 := EX.out at'
      have RQ := keep (RC.out (tx (T.take at')) w3 (pow10_stays HT.out B3.out (Nat.le_refl _)))
      unfold RJ at RQ
      rw [hq.jr, hq.ok] at RQ
      have QR := keep hq.res
      have hsmq : small (q.1.map tx) := by
        have h1 := (JR_small (tx (T.take at'))).1
        rw [hq.jr] at h1
        exact h1
      have QS := keep hq.le
      have HQ1 := keep hq1
      have HQ2 := keep hq2
      have HQ3 := keep hq3
      clear hq hq1 hq2 hq3 hq4 hq5 HJ
      go_wp2_with fail
      refine RQ.out.mono ?_
      rintro e w4 ⟨E, e1, rfl, hown, hb⟩
      have OW4 := keep (owns_below OW3.out hb)
      have B4 := keep (B3.out.trans (hb.mono B3.out.size))
      have OQ4 := keep hown
      have RD := keep (Rd.of_own (ss := q.1.map tx) hown)
      have JQ := keep (JO.out E e1 (q.1.map tx) w4 RD.out hsmq (pow10_stays HT.out B4.out (Nat.le_refl _)))
      unfold JOut at JQ
      rw [QR.out, List.length_map] at JQ
      clear hb hown RD RQ OW3 B3
      go_wp2_with fail
      refine JQ.out.mono ?_
      rintro e w5 ⟨rfl, hb⟩
      have OW5 := keep (owns_below OW4.out hb)
      have OQ5 := keep (owns_below OQ4.out hb)
      have B5 := keep (B4.out.trans (hb.mono B4.out.size))
      clear hb JQ OW4 OQ4 B4 EX1 hr hw1 hw2 hw3
      go_wp2_with fail
      go_loopw [14, 15] (fun s t wr => ∃ i : Nat, i ≤ at' ∧ t = .int .i64 i ∧ s = .int .i64 (cnt (T.take i)) ∧ wr = w5) (fun _ t _ => at' - (intOf t).toNat)
      case atStart => exact ⟨0, Nat.zero_le _, rfl, rfl, rfl⟩
      case round =>
        obtain ⟨i, hi, rfl, rfl, rfl⟩ := hrel
        by_cases hlt : i < at'
        · have hiT : i < T.length := by omega
          have hiI : (i : Int) < (at' : Int) := by omega
          have hiT2 : (i : Int) < (T.length : Int) := by omega
          have hi0 : (0 : Int) ≤ (i : Int) := by omega
          have gx := tx_ten T i (by rw [tx_size]; exact hiT) hiT
          have ct := keep (cnt_take T i hiT)
          have cl := cnt_le (T.take i)
          rw [List.length_take] at cl
          have hcw : wrap64 ((cnt (T.take i) : Int) + 1) = ((cnt (T.take i) + 1 : Nat) : Int) := by
            unfold wrap64
            push_cast
            omega
          by_cases hc : T[i] = 10
          · rw [decide_eq_true hc] at gx
            have ct := ct.out
            rw [if_pos hc] at ct
            have ct := keep ct
            clear hc
            go_wp2_with fail
            go_roundw
            case rel => exact ⟨i + 1, by omega, by go_num, by rw [ct.out]; go_num, trivial⟩
            case measure => simp [intOf]; omega
          · rw [decide_eq_false hc] at gx
            have ct := ct.out
            rw [if_neg hc] at ct
            have ct := keep ct
            clear hc
            go_wp2_with fail
            go_roundw
            case rel => exact ⟨i + 1, by omega, by go_num, by rw [ct.out]; rfl, trivial⟩
            case measure => simp [intOf]; omega
        · obtain rfl : i = at' := by omega
          have hce := HQ2.out.symm
          have hq1 := HQ1.out
          have EXq : (tx T).extract 0 q.2 = tx ((T.take i).take q.2) := by rw [EX.out, List.take_take, Nat.min_eq_left hq1]
          have hqI : ¬ ((i : Int) < (q.2 : Int)) := by omega
          have hqI2 : (q.2 : Int) ≤ (T.length : Int) := by omega
          have hqI3 : ¬ ((q.2 : Int) < 0) := by omega
          go_wp2_with fail
          clear hce EXq
          go_loopw [16] (fun s wr => ∃ j : Nat, j ≤ q.1.length ∧ s = .int .i64 j ∧ Kept (wr.ownsRow w1.heap.size 9 1 (.slice D L.length d) L.length (L.map Value.string)) ∧ Kept (wr.ownsRow w3.heap.size 9 1 (.slice E q.1.length e1) q.1.length (sv (q.1.map tx))) ∧ Kept (Below w.heap.size w wr)) (fun s _ => q.1.length - (intOf s).toNat)
          case atStart => exact ⟨0, Nat.zero_le _, rfl, OW5, OQ5, B5⟩
          case round =>
            clear OW5 OQ5 B5
            obtain ⟨j, hj, rfl, ow, oq, hb⟩ := hrel
            by_cases hlt : j < q.1.length
            · have hjL : j < L.length := by have := HQ3.out; omega
              obtain ⟨gD, cD, hD, _, _⟩ := ow.out.form (by omega)
              obtain ⟨gE, cE, hE, _, _⟩ := oq.out.form (by omega)
              injection hD with hD x1 x2
              injection hE with hE x3 x4
              clear x1 x2 x3 x4
              subst hD
              subst hE
              have hs : tx q.1[j] = L[j] := HQ4.out j hlt hjL
              have cD : wr.cell? ⟨gD, j, none⟩ = some (.string L[j]) := by
                have e := ow.out.cells (g := gD) rfl j (.string L[j]) (by simp [hjL])
                rwa [Addr.add_lit, Nat.zero_add] at e
              have cE : wr.cell? ⟨gE, j, none⟩ = some (.string L[j]) := by
                have e := oq.out.cells (g := gE) rfl j (.string (tx q.1[j])) (by unfold sv; simp [hlt])
                rwa [Addr.add_lit, Nat.zero_add, hs] at e
              clear hs
              generalize L[j] = s at *
              have hjI : (j : Int) < (q.1.length : Int) := by omega
              have hjI2 : (j : Int) < (L.length : Int) := by omega
              have hj0 : (0 : Int) ≤ (j : Int) := by omega
              have q3 := HQ3.out
              go_wp2_with fail
              go_quiet (fail)
              go_wp2_with fail
              go_roundw
              case rel => exact ⟨j + 1, by omega, by go_num, keep (owns_below ow.out (Below.drewN _ _ _)), keep (owns_below oq.out (Below.drewN _ _ _)), keep (Below.drewN_of hb.out _)⟩
              case measure => simp [intOf]; omega
            · obtain rfl : j = q.1.length := by omega
              clear ow oq
              go_upto_region 25 with fail
              have hat : i < T.length := ha
              have hiw : IntKind.i64.wrap ((i : Int) + 1) = (i : Int) + 1 := IntWalk.i64_in _ ⟨by omega, by omega⟩
              have hi1 : (i : Int) + 1 ≤ (T.length : Int) := by omega
              have hi2 : (0 : Int) ≤ (i : Int) + 1 := by omega
              have EXi := EX.out i
              have EXj := EXb.out (i + 1)
              have Z1 := tx_size (T.take i)
              have Z2 := tx_size (T.drop (i + 1))
              have L1 : (T.take i).length ≤ 3000 := by rw [List.length_take]; omega
              have L2 : (T.drop (i + 1)).length ≤ 3000 := by rw [List.length_drop]; omega
              obtain ⟨ta, hta⟩ : ∃ ta, ta = T.take i := ⟨_, rfl⟩
              obtain ⟨tb, htb⟩ : ∃ tb, tb = T.drop (i + 1) := ⟨_, rfl⟩
              rw [← hta] at EXi Z1 L1
              rw [← htb] at EXj Z2 L2
              have HTA := keep hta
              have HTB := keep htb
              clear hta htb
              have nz1 : ¬ (9223372036854775807 < ta.length + 1) := by omega
              have nz2 : ¬ (9223372036854775807 < ta.length + 1 + tb.length) := by omega
              have JB := keep (jAt a2 n2 c2 2 256 wr.drew (jaft HB2.out (Below.drew hb.out)) (by omega) (by omega) (by omega))
              have HV := keep (fun r hr => one_byte wr r hr 5)
              have BA := keep (show ∀ r, Below w.heap.size w (wr.alloc (.cells #[.int .u8 r] 5)).drew from fun r => Below.drew (hb.out.alloc hb.out.size _))
              have HBND := keep hb
              clear hb
              go_cut [17] (fun s17 wx => ∃ c : UInt8, s17 = .string (tx (ta ++ c :: tb)) ∧ Kept (Below w.heap.size w wx))
              case first =>
                go_region_law (first
                  | (go_simp; go_at_call 8; refine JB.out.mono ?_; rintro e w' ⟨⟨r3, hr3, rfl⟩, rfl⟩; have hu8 := u8_in r3 hr3; have hcv := HV.out r3 hr3; have os := one_size (UInt8.ofNat r3); have zs : (tx ta ++ (⟨#[UInt8.ofNat r3]⟩ : ByteArray)).size ≤ 3001 := by { rw [app_size, Z1]; exact Nat.add_le_add_right L1 1 }))
                all_goals
                  go_wp2_with fail
                  go_meet
                  exact ⟨UInt8.ofNat r3, congrArg Value.string (bent_bytes ta tb (UInt8.ofNat r3)), keep (BA.out r3)⟩
              case rest =>
                obtain ⟨c, rfl, B6⟩ := hcut
                obtain ⟨r, hr, hqr⟩ := HQ5.out c
                rw [← HTA.out, ← HTB.out] at hr
                clear EXi EXj EX EXb Z1 Z2 L1 L2 nz1 nz2 JB HV BA HBND hiw hi1 hi2 HTA HTB HQ4 HQ5
                obtain ⟨bt, hbt⟩ : ∃ bt, bt = ta ++ c :: tb := ⟨_, rfl⟩
                rw [← hbt] at hr ⊢
                clear hbt
                have RQ := keep (RC.out (tx bt) wc (pow10_stays HT.out B6.out (Nat.le_refl _)))
                unfold RJ at RQ
                rw [hr.jr, hr.ok] at RQ
                have QR := keep hr.res
                have QS := keep hr.le
                have hsmr : small (r.1.map tx) := by
                  have h1 := (JR_small (tx bt)).1
                  rw [hr.jr] at h1
                  exact h1
                have BS := tx_size bt
                have EXr : (tx bt).extract 0 r.2 = tx (bt.take r.2) := by rw [tx_piece, tx_bytes, List.drop_zero, Nat.sub_zero]
                have EXR := keep EXr
                have HQR := keep hqr
                clear hr EXr hqr hqI hqI2 hqI3 hq1
                go_wp2_with fail
                refine RQ.out.mono ?_
                rintro e w7 ⟨F, f1, rfl, hown, hb⟩
                have B7 := keep (B6.out.trans (hb.mono B6.out.size))
                have RD := keep (Rd.of_own (ss := r.1.map tx) hown)
                have JQ := keep (JO.out F f1 (r.1.map tx) w7 RD.out hsmr (pow10_stays HT.out B7.out (Nat.le_refl _)))
                unfold JOut at JQ
                rw [QR.out, List.length_map] at JQ
                clear hb hown RD RQ B6 hsmr
                go_wp2_with fail
                refine JQ.out.mono ?_
                rintro e w8 ⟨rfl, hb⟩
                have B8 := keep (B7.out.trans (hb.mono B7.out.size))
                have EXr := EXR.out
                have h1 := QS.out
                have h2 := HQR.out
                have h3 : (q.2 : Int) ≤ (r.2 : Int) := by omega
                have h4 : (r.2 : Int) ≤ (bt.length : Int) := by omega
                have h5 : (0 : Int) ≤ (r.2 : Int) := by omega
                clear hb JQ B7
                go_wp2_with fail
                go_ret
                exact ⟨rfl, B8.out⟩
end Go.Proofs.YtldnldgndjbhfaaDoor
