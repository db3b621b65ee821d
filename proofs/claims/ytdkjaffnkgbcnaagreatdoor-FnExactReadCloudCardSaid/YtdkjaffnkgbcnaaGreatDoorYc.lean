/- Contracts: the program's numbers in decimal, both ways. The table of powers of ten and the errors' variables are premises. -/
import Derived.Test.YtdkjaffnkgbcnaaGreatDoorYa
namespace Go.Proofs.YtdkjaffnkgbcnaaGreatDoor
open Go.RowKit Go.Sort
set_option linter.unusedSimpArgs false
set_option linter.unusedVariables false

theorem P10.below {w w' : World} {B : Nat} (h : P10 w) (hb : Below B w w') (hB : w.heap.size ≤ B) : P10 w' := pow10_stays h hb hB

theorem Decimal_gen (n : Int) (w : World) (hn : okV n = true) (htab : P10 w) :
    Calls Tryz.prog 49 #[.int .i64 n] w fun e w' => e = .returned (.string (tx (Lib.itoa n))) ∧ Below w.heap.size w w' := by
  have hB := okV_b hn
  have HC := keep (Tryz.strconv_FormatInt_10 n (by omega) (by omega) w htab)
  clear htab hn hB
  go_enter Tryz.func49, Tryz.ntmps49
  go_wp2_with fail
  refine HC.out.mono ?_
  rintro e w' ⟨rfl, k, os, rfl⟩
  have hb : Below w.heap.size w (grow (w.drewN k) os) := ⟨rfl, rfl, rfl, by simp [grow], fun j hj => heap_grow_old (w.drewN k) os hj⟩
  generalize grow (w.drewN k) os = w' at *
  go_wp2_with fail
  go_ret
  exact ⟨rfl, hb⟩

/-- What the program's ParseInt says. -/
def PI (l : List UInt8) (e : Ending) : Prop := (∃ v : Int, Lib.parseIntB 64 l = .ok v ∧ e = .returned (.tuple #[.int .i64 v, .nilIface])) ∨ (∃ (m : Int) (t : TypeId) (p : Value), (∀ v, Lib.parseIntB 64 l ≠ .ok v) ∧ e = .returned (.tuple #[.int .i64 m, .iface t p]))

theorem iParse (l : List UInt8) (w : World) (hl : l.length ≤ 1100000) :
    Calls Tryz.prog 73 #[.string (tx l), .int .i64 10, .int .i64 64] w fun e w' => e = .returned (Lib.intTuple 116 (Lib.intSat 64 l) (Lib.parseIntB 64 l)) ∧ Below w.heap.size w w' := by
  have TS := tx_size l
  have h := Tryz.internal_strconv_ParseInt_10_all64 (tx l) (by omega) w
  rw [tx_bytes] at h
  refine h.mono ?_
  rintro e w' ⟨rfl, hw⟩
  refine ⟨rfl, ?_⟩
  rcases hw with rfl | ⟨t, rfl⟩
  · exact Below.refl _ _
  · exact Lib.bytesWorld_below _ _ _

set_option maxHeartbeats 4000000 in
theorem ParseInt_any (l : List UInt8) (w : World) (hmax : l.length ≤ 1100000) (her : ER w) :
    Calls Tryz.prog 47 #[.string (tx l), .int .i64 10, .int .i64 64] w fun e w' => PI l e ∧ Below w.heap.size w w' := by
  have IP := iParse l w hmax
  have HE := keep her
  have TS := tx_size l
  clear her
  rcases hp : Lib.parseIntB 64 l with v | _ | _
  · have HP := keep hp
    rw [hp] at IP
    have IP2 : Calls Tryz.prog 73 #[.string (tx l), .int .i64 10, .int .i64 64] w fun e w' => e = .returned (.tuple #[.int .i64 v, .nilIface]) ∧ Below w.heap.size w w' := IP
    have IP := keep IP2
    clear IP2 hp
    go_enter Tryz.func47, Tryz.ntmps47
    go_wp2_with fail
    refine IP.out.mono ?_
    rintro e w1 ⟨rfl, hb⟩
    have HB := keep hb
    clear hb
    go_wp2_with fail
    go_ret2
    exact ⟨.inl ⟨v, HP.out, rfl⟩, HB.out⟩
  · have HP := keep (show ∀ v, Lib.parseIntB 64 l ≠ .ok v from fun v h => by rw [hp] at h; cases h)
    rw [hp] at IP
    have IP2 : Calls Tryz.prog 73 #[.string (tx l), .int .i64 10, .int .i64 64] w fun e w' => e = .returned (.tuple #[.int .i64 0, .iface 116 (.int .i64 2)]) ∧ Below w.heap.size w w' := IP
    have IP := keep IP2
    clear IP2 hp
    go_enter Tryz.func47, Tryz.ntmps47
    go_wp2_with fail
    refine IP.out.mono ?_
    rintro e w1 ⟨rfl, hb⟩
    have HB := keep hb
    have HE1 := HE.out.below hb (Nat.le_refl _)
    obtain ⟨t1, p1, t2, p2, e1, e2⟩ := HE1
    clear hb
    have TE := keep (fun fn => Tryz.strconv_toError_syntax fn (tx l) 10 64 (.iface t1 p1) w1 (by omega) e1 (.inr ⟨_, _, rfl⟩))
    go_wp2_with fail
    refine (TE.out _).mono ?_
    rintro e w2 ⟨N, rfl, _, _, hb2⟩
    have HB2 := keep (HB.out.trans (hb2.mono HB.out.size))
    clear hb2
    go_wp2_with fail
    go_ret2
    exact ⟨.inr ⟨_, _, _, HP.out, rfl⟩, HB2.out⟩
  · have HP := keep (show ∀ v, Lib.parseIntB 64 l ≠ .ok v from fun v h => by rw [hp] at h; cases h)
    rw [hp] at IP
    generalize Lib.intSat 64 l = sat at IP
    have IP2 : Calls Tryz.prog 73 #[.string (tx l), .int .i64 10, .int .i64 64] w fun e w' => e = .returned (.tuple #[.int .i64 sat, .iface 116 (.int .i64 1)]) ∧ Below w.heap.size w w' := IP
    have IP := keep IP2
    clear IP2 hp
    go_enter Tryz.func47, Tryz.ntmps47
    go_wp2_with fail
    refine IP.out.mono ?_
    rintro e w1 ⟨rfl, hb⟩
    have HB := keep hb
    have HE1 := HE.out.below hb (Nat.le_refl _)
    obtain ⟨t1, p1, t2, p2, e1, e2⟩ := HE1
    clear hb
    have TE := keep (fun fn => Tryz.strconv_toError_range fn (tx l) 10 64 (.iface t2 p2) w1 (by omega) e2 (.inr ⟨_, _, rfl⟩))
    go_wp2_with fail
    refine (TE.out _).mono ?_
    rintro e w2 ⟨N, rfl, _, _, hb2⟩
    have HB2 := keep (HB.out.trans (hb2.mono HB.out.size))
    clear hb2
    go_wp2_with fail
    go_ret2
    exact ⟨.inr ⟨_, _, _, HP.out, rfl⟩, HB2.out⟩

theorem isValue_any (n : Int) (w : World) : Calls Tryz.prog 48 #[.int .i64 n] w fun e w' => e = .returned (.bool (okV n)) ∧ w' = w := by
  have HW := keep (fun w => withinJ n (-1000000000000000) 1000000000000000 w)
  go_enter Tryz.func48, Tryz.ntmps48
  go_wp2_with fail
  refine (HW.out _).mono ?_
  rintro e w1 ⟨rfl, rfl⟩
  go_wp2_with fail
  go_ret
  exact ⟨rfl, rfl⟩

def dvv (n : Int) : Value := .int .i64 n

set_option maxHeartbeats 4000000 in
theorem ReadDecimal_any (l : List UInt8) (w : World) (hmax : l.length ≤ 1100000) (her : ER w) (hp : P10 w) :
    Calls Tryz.prog 28 #[.string (tx l)] w fun e w' => OV goodd dvv l e ∧ Below w.heap.size w w' := by
  have PP := keep (ParseInt_any l w hmax her)
  have IV := keep (fun n w => isValue_any n w)
  have DC := keep (fun n w h1 h2 => Decimal_gen n w h1 h2)
  have HP := keep hp
  have k2 : (tx l).toList = l := by rw [Lib.toList_data, tx_bytes]
  clear her hp hmax
  go_enter Tryz.func28, Tryz.ntmps28
  go_wp2_with fail
  refine PP.out.mono ?_
  rintro e w1 ⟨hpi, hb⟩
  have HB := keep hb
  have HP1 := keep (HP.out.below hb (Nat.le_refl _))
  clear hb
  rcases hpi with ⟨v, hv, rfl⟩ | ⟨m, t, p, hn, rfl⟩
  · have HV := keep hv
    clear hv
    have hiv := fun w => IV.out v w
    cases hok : okV v
    · rw [hok] at hiv
      have GN := keep (goodd_bad HV.out (fun h => by rw [hok] at h; cases h.1))
      have HI := keep hiv
      clear hiv hok
      go_wp2_with fail
      refine (HI.out _).mono ?_
      rintro e w2 ⟨rfl, hw2⟩
      have hw2 := hw2.symm
      subst hw2
      go_wp2_with fail
      go_ret2
      exact ⟨.inr ⟨_, GN.out, rfl⟩, HB.out⟩
    · rw [hok] at hiv
      have HI := keep hiv
      have DC1 := keep (DC.out v w1 hok HP1.out)
      have k1 : (tx (Lib.itoa v)).toList = Lib.itoa v := by rw [Lib.toList_data, tx_bytes]
      by_cases hit : Lib.itoa v = l
      · have hq : (Lib.itoa v == l) = true := by rw [hit]; simp
        have GS := keep (goodd_of hok hit)
        clear hiv hok hit
        go_wp2_with fail
        refine (HI.out _).mono ?_
        rintro e w2 ⟨rfl, hw2⟩
        have hw2 := hw2.symm
        subst hw2
        go_wp2_with fail
        refine DC1.out.mono ?_
        rintro e w2 ⟨rfl, hb2⟩
        have HB2 := keep (HB.out.trans (hb2.mono HB.out.size))
        clear hb2
        go_wp2_with fail
        go_ret2
        exact ⟨.inl ⟨v, GS.out, rfl⟩, HB2.out⟩
      · have hq : (Lib.itoa v == l) = false := by rw [beq_eq_false_iff_ne]; exact hit
        have GN := keep (goodd_bad HV.out (fun h => hit h.2))
        clear hiv hok hit
        go_wp2_with fail
        refine (HI.out _).mono ?_
        rintro e w2 ⟨rfl, hw2⟩
        have hw2 := hw2.symm
        subst hw2
        go_wp2_with fail
        refine DC1.out.mono ?_
        rintro e w2 ⟨rfl, hb2⟩
        have HB2 := keep (HB.out.trans (hb2.mono HB.out.size))
        clear hb2
        go_wp2_with fail
        go_ret2
        exact ⟨.inr ⟨_, GN.out, rfl⟩, HB2.out⟩
  · have GN := keep (goodd_not hn)
    clear hn
    go_wp2_with fail
    go_ret2
    exact ⟨.inr ⟨_, GN.out, rfl⟩, HB.out⟩
end Go.Proofs.YtdkjaffnkgbcnaaGreatDoor
