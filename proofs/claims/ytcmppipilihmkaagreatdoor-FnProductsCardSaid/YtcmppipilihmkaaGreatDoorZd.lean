/- Contracts: subnormal numbers, flushed numbers, a number widened and narrowed. No condition. -/
import Derived.Test.YtcmppipilihmkaaGreatDoorZc
namespace Go.Proofs.YtcmppipilihmkaaGreatDoor
open Go.RowKit Go.Sort Ieee
set_option linter.unusedSimpArgs false

theorem width64 : 2 * double.signWeight = 18446744073709551616 := by decide
theorem widen_lt (b : Nat) : widen b < 18446744073709551616 := by
  unfold widen
  split
  · decide
  · rw [← width64]; exact write_lt double _
theorem nan64_lt (t : Nat) : (t % 2) * 2 ^ 63 + 0x7ff0000000000000 + 1 + (t / 2) % (2 ^ 52 - 1) < 18446744073709551616 := by
  have h1 : t % 2 < 2 := Nat.mod_lt _ (by decide)
  have h2 : (t / 2) % (2 ^ 52 - 1) < 2 ^ 52 - 1 := Nat.mod_lt _ (by decide)
  omega
theorem run_widen_lt (w : World) (b : Nat) :
    ∃ r m, (convert 28 46 (.float .f32 b)).run Tryz.prog w = .ok (.float .f64 r) (w.drewN m) ∧ FEq .f64 r (widen b) ∧ r < 18446744073709551616 := by
  cases h : FloatKind.f32.decode b with
  | nan s t =>
    refine ⟨Question.cut (.nanConv .f64 b) (w.tape w.drawn (.nanConv .f64 b)), 1, ?_, .inr ⟨nan_cut64 _, by unfold widen; rw [h]; exact qnan_nan _⟩, nan64_lt _⟩
    simp [convert, run_underlying Tryz.underlying28, run_underlying Tryz.underlying46, Conv.floatToFloat, h, choose, Sem.run, Question.forced, World.drewN]
  | infinity s =>
    refine ⟨_, 0, zconv32 b (widen b) ?_ w, FEq.refl _ _, widen_lt b⟩
    unfold floatToFloatBits widen
    simp [h]
  | number s m i =>
    obtain ⟨r, hr, hw, hread, hsm⟩ := widen_number h
    refine ⟨_, 0, zconv32 b (widen b) ?_ w, FEq.refl _ _, widen_lt b⟩
    have he : FloatKind.f64.encode (.number s m i) = widen b := by unfold widen; rw [h]
    unfold floatToFloatBits
    simp only [h, he, hread]
    simp [Ieee.Datum.isInfinity]
theorem nan_mod (b : Nat) : isNaN .f64 (b % 9223372036854775808) = isNaN .f64 b := by
  have sw : double.signWeight = 9223372036854775808 := by decide
  show (double.read (b % 9223372036854775808)).isNaN = (double.read b).isNaN
  unfold Format.read
  simp only [sw, Nat.mod_mod]
  split
  · rfl
  · split
    · rfl
    · split <;> rfl
theorem order_mod {r s : Nat} (h : FEq .f64 r s) (K : Nat) : FloatKind.f64.format.order (r % 9223372036854775808) K = FloatKind.f64.format.order (s % 9223372036854775808) K := by
  rcases h with rfl | ⟨h1, h2⟩
  · rfl
  · rw [order_nan_l .f64 K (by rw [nan_mod]; exact h1), order_nan_l .f64 K (by rw [nan_mod]; exact h2)]

/-- Is the number of this word subnormal? -/
def sub32 (b : Nat) : Bool := !(FloatKind.f32.format.order b 0 == some .eq) && (FloatKind.f64.format.order (widen b % 9223372036854775808) 4039728865751334912 == some .lt)

set_option maxHeartbeats 1000000 in
set_option maxRecDepth 20000 in
theorem IsSubnormal_any (b : Nat) (w : World) : Calls Tryz.prog 33 #[.float .f32 b] w fun e w' => e = .returned (.bool (sub32 b)) ∧ ∃ m, w' = w.drewN m := by
  unfold sub32
  by_cases hz : FloatKind.f32.format.order b 0 = some .eq
  · have hq : (FloatKind.f32.format.order b 0 == some .eq) = true := by rw [hz]; rfl
    rw [hq]
    clear hq
    go_enter Tryz.func33, Tryz.ntmps33
    go_wp2_with fail
    go_ret
    exact ⟨by simp, 0, rfl⟩
  · have hq : (FloatKind.f32.format.order b 0 == some .eq) = false := by rw [beq_eq_false_iff_ne]; exact hz
    rw [hq]
    obtain ⟨r, m, hrun, hr, hl⟩ := run_widen_lt w b
    have AB := keep (fun w => Abs_any r w hl)
    have HO := order_mod hr 4039728865751334912
    rw [← HO]
    clear HO hr hl hq
    generalize r % 9223372036854775808 = q at *
    go_enter Tryz.func33, Tryz.ntmps33
    go_wp2_with fail
    refine (AB.out _).mono ?_
    rintro e w' ⟨rfl, rfl⟩
    go_wp2_with fail
    go_ret
    exact ⟨by simp [hz], m, rfl⟩

theorem sub32_zero : sub32 0 = false := by decide +kernel
theorem sub32_minus : sub32 2147483648 = false := by decide +kernel
theorem sub32_fin {b : Nat} (h : sub32 b = true) : isNaN .f32 b = false ∧ b ≠ 0 ∧ b ≠ 2147483648 := by
  refine ⟨?_, fun e => ?_, fun e => ?_⟩
  · cases hn : isNaN .f32 b
    · rfl
    · exfalso
      obtain ⟨s, t, e⟩ := read_nan_of hn
      have e' : FloatKind.f32.decode b = .nan s t := e
      have ew : widen b = qnan .f64 := by unfold widen; rw [e']
      unfold sub32 at h
      rw [ew, order_nan_l .f64 _ (by rw [nan_mod]; exact qnan_nan .f64)] at h
      simp at h
  · subst e; rw [sub32_zero] at h; cases h
  · subst e; rw [sub32_minus] at h; cases h
theorem ftf_some {b : Nat} (h : isNaN .f32 b = false) : floatToFloatBits .f32 b .f64 = some (widen b) := by
  cases hd : FloatKind.f32.decode b with
  | nan s t =>
    exfalso
    have : isNaN .f32 b = true := by unfold isNaN; rw [show FloatKind.f32.format.read b = .nan s t from hd]; rfl
    rw [this] at h; cases h
  | infinity s => unfold floatToFloatBits widen; simp [hd]
  | number s m i =>
    obtain ⟨r, hr, hw, hread, hsm⟩ := widen_number hd
    have he : FloatKind.f64.encode (.number s m i) = widen b := by unfold widen; rw [hd]
    unfold floatToFloatBits
    simp only [hd, he, hread]
    simp [Ieee.Datum.isInfinity]

/-- A flushed number: itself, or a zero. -/
def flush (b : Nat) : Nat := if sub32 b then (if widen b / 9223372036854775808 = 0 then 0 else 2147483648) else b
theorem flush_zero {b : Nat} (h : sub32 b = true) : flush b = 0 ∨ flush b = 2147483648 := by
  unfold flush
  rw [if_pos h]
  split
  · exact .inl rfl
  · exact .inr rfl
theorem flush_same {b : Nat} (h : sub32 b = false) : flush b = b := by
  unfold flush
  rw [h]; rfl
theorem flush_lt {b : Nat} (h : b < 4294967296) : flush b < 4294967296 := by
  cases hs : sub32 b
  · rw [flush_same hs]; exact h
  · rcases flush_zero hs with e | e <;> omega
theorem flush_sub (b : Nat) : sub32 (flush b) = false := by
  cases hs : sub32 b
  · rw [flush_same hs, hs]
  · rcases flush_zero hs with e | e <;> rw [e]
    · exact sub32_zero
    · exact sub32_minus
theorem flush_cb (b : Nat) : (cb b == cb (flush b)) = !sub32 b := by
  cases hs : sub32 b
  · rw [flush_same hs]; simp
  · obtain ⟨h1, h2, h3⟩ := sub32_fin hs
    rw [cb_num h1]
    rcases flush_zero hs with e | e <;> rw [e]
    · rw [show cb 0 = 0 by decide +kernel]; simp [h2]
    · rw [show cb 2147483648 = 2147483648 by decide +kernel]; simp [h3]

set_option maxHeartbeats 1000000 in
theorem FlushNumber_any (b : Nat) (w : World) : Calls Tryz.prog 28 #[.float .f32 b] w fun e w' => e = .returned (.float .f32 (flush b)) ∧ ∃ m, w' = w.drewN m := by
  have SU := keep (IsSubnormal_any b w)
  cases hs : sub32 b
  · rw [flush_same hs]
    rw [hs] at SU
    clear hs
    go_enter Tryz.func28, Tryz.ntmps28
    go_wp2_with fail
    refine SU.out.mono ?_
    rintro e w' ⟨rfl, m, rfl⟩
    go_wp2_with fail
    go_ret
    exact ⟨rfl, m, rfl⟩
  · obtain ⟨h1, _, _⟩ := sub32_fin hs
    have f1 := zconv32 b (widen b) (ftf_some h1)
    have CS := keep (fun w => Copysign0_any (widen b) w (widen_lt b))
    have wl := widen_lt b
    rw [hs] at SU
    unfold flush
    rw [if_pos hs]
    have c0 : floatToFloatBits .f64 0 .f32 = some 0 := by decide +kernel
    have c1 : floatToFloatBits .f64 9223372036854775808 .f32 = some 2147483648 := by decide +kernel
    have f2 := zconv64 _ _ c0
    have f3 := zconv64 _ _ c1
    have hq : widen b / 9223372036854775808 = 0 ∨ widen b / 9223372036854775808 = 1 := by omega
    clear c0 c1 hs h1 wl
    generalize widen b = W at *
    rcases hq with hq | hq
    · rw [hq] at CS ⊢
      rw [if_pos rfl]
      go_enter Tryz.func28, Tryz.ntmps28
      go_wp2_with fail
      refine SU.out.mono ?_
      rintro e w' ⟨rfl, m, rfl⟩
      go_wp2_with fail
      refine (CS.out _).mono ?_
      rintro e w' ⟨rfl, rfl⟩
      go_wp2_with fail
      go_ret
      exact ⟨rfl, m, rfl⟩
    · rw [hq] at CS ⊢
      rw [if_neg (by decide)]
      go_enter Tryz.func28, Tryz.ntmps28
      go_wp2_with fail
      refine SU.out.mono ?_
      rintro e w' ⟨rfl, m, rfl⟩
      go_wp2_with fail
      refine (CS.out _).mono ?_
      rintro e w' ⟨rfl, rfl⟩
      go_wp2_with fail
      go_ret
      exact ⟨rfl, m, rfl⟩

/-! ### Narrowed again -/
theorem sameMag_symm {m n : Nat} {i j : Int} (h : SameMag m i n j) : SameMag n j m i := by
  unfold SameMag at *
  rw [Int.min_comm j i]
  exact h.symm
theorem narrow_widen {b : Nat} (hb : b < 4294967296) (hn : isNaN .f32 b = false) : floatToFloatBits .f64 (widen b) .f32 = some b := by
  cases hd : FloatKind.f32.decode b with
  | nan s t =>
    exfalso
    have : isNaN .f32 b = true := by unfold isNaN; rw [show FloatKind.f32.format.read b = .nan s t from hd]; rfl
    rw [this] at hn; cases hn
  | infinity s =>
    have ew : widen b = FloatKind.f64.encode (.infinity s) := by unfold widen; rw [hd]
    have hd' : single.read b = .infinity s := hd
    have eb : b = single.word s single.infRung := by
      have hw := word_eq single (b := b) (by rw [width_eq, width32]; exact hb)
      have e1 : (b / single.signWeight % 2 == 1) = s ∧ b % single.signWeight = single.infRung := by
        unfold Format.read at hd'
        simp only at hd'
        split at hd'
        · cases hd'
        · split at hd'
          · cases hd'
          · split at hd'
            · rename_i h3
              injection hd' with h4
              exact ⟨h4, h3⟩
            · cases hd'
      rw [e1.1, e1.2] at hw
      exact hw
    rw [ew, eb]
    cases s <;> decide +kernel
  | number s m i =>
    obtain ⟨r, hr, hw, hread, hsm⟩ := widen_number hd
    have hd' : single.read b = .number s m i := hd
    obtain ⟨q, hq, rfl, rfl, rfl⟩ := read_number single binade_le_single (by rw [width_eq, width32]; exact hb) hd'
    have key : single.nearest s (rungMag double r) (rungPlace double r) = single.word s q := by
      by_cases hz : rungMag double r = 0
      · have hz2 : rungMag single q = 0 := by
          rw [hz] at hsm
          unfold SameMag at hsm
          rw [Nat.zero_mul] at hsm
          rcases Nat.mul_eq_zero.1 hsm with h | h
          · exact h
          · exact absurd h (by simp [Nat.pow_eq_zero])
        have hq0 : q = 0 := by
          unfold rungMag at hz2
          have := binade_pos single
          split at hz2 <;> omega
        subst hq0
        rw [hz]; rfl
      · exact nearest_rung single s _ _ q hq hz (sameMag_symm hsm)
    have hread2 : FloatKind.f64.decode (widen (single.word s q)) = .number s (rungMag double r) (rungPlace double r) := hread
    unfold floatToFloatBits
    rw [if_neg (by decide), hread2]
    show (if (FloatKind.f32.decode (single.nearest s (rungMag double r) (rungPlace double r))).isInfinity = true then none else some (single.nearest s (rungMag double r) (rungPlace double r))) = _
    rw [key, show FloatKind.f32.decode (single.word s q) = _ from hd]
    rfl
theorem run_narrow_nan (w : World) (r : Nat) (h : isNaN .f64 r = true) :
    ∃ z m, (convert 46 28 (.float .f64 r)).run Tryz.prog w = .ok (.float .f32 z) (w.drewN m) ∧ isNaN .f32 z = true ∧ z < 4294967296 := by
  obtain ⟨s, t, e⟩ := read_nan_of h
  have e' : FloatKind.f64.decode r = .nan s t := e
  refine ⟨Question.cut (.nanConv .f32 r) (w.tape w.drawn (.nanConv .f32 r)), 1, ?_, nan_cut32 _, cut32_lt _⟩
  simp [convert, run_underlying Tryz.underlying28, run_underlying Tryz.underlying46, Conv.floatToFloat, e', choose, Sem.run, Question.forced, World.drewN]

set_option maxHeartbeats 1000000 in
/-- A number that was widened is narrowed to itself. -/
theorem NarrowNumber_back (b r : Nat) (w : World) (hb : b < 4294967296) (hr : FEq .f64 r (widen b)) : Calls Tryz.prog 36 #[.float .f64 r] w fun e w' => ∃ z m, e = .returned (.float .f32 z) ∧ z < 4294967296 ∧ cb z = cb b ∧ w' = w.drewN m := by
  cases hn : isNaN .f32 b
  · have hw : isNaN .f64 (widen b) = false := by
      cases hd : FloatKind.f32.decode b with
      | nan s t =>
        exfalso
        have : isNaN .f32 b = true := by unfold isNaN; rw [show FloatKind.f32.format.read b = .nan s t from hd]; rfl
        rw [this] at hn; cases hn
      | infinity s =>
        have ew : widen b = FloatKind.f64.encode (.infinity s) := by unfold widen; rw [hd]
        rw [ew]; cases s <;> decide +kernel
      | number s m i =>
        obtain ⟨r, hr, hw, hread, hsm⟩ := widen_number hd
        unfold isNaN
        rw [show FloatKind.f64.format.read (widen b) = _ from hread]; rfl
    have e := hr.eq hw
    subst e
    have f1 := zconv64 _ _ (narrow_widen hb hn)
    have HB := keep hb
    clear hr hw hn hb
    generalize widen b = W at *
    go_enter Tryz.func36, Tryz.ntmps36
    go_wp2_with fail
    go_ret
    exact ⟨b, 0, rfl, HB.out, rfl, rfl⟩
  · obtain ⟨s, t, e⟩ := read_nan_of hn
    have e' : FloatKind.f32.decode b = .nan s t := e
    have ew : widen b = qnan .f64 := by unfold widen; rw [e']
    have hrn : isNaN .f64 r = true := by
      rw [hr.nan, ew]; exact qnan_nan .f64
    obtain ⟨z, m, hrun, hz, hl⟩ := run_narrow_nan w r hrn
    have HC := keep (show cb z = cb b by rw [cb_nan hz, cb_nan hn])
    clear hr e e' ew hrn hz hn hb
    go_enter Tryz.func36, Tryz.ntmps36
    go_wp2_with fail
    go_ret
    exact ⟨z, m, rfl, hl, HC.out, rfl⟩
end Go.Proofs.YtcmppipilihmkaaGreatDoor
