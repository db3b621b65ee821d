/- Contract: a number of a byte of the code; the plain law of a moved cloud's charges. -/
import Derived.Test.YtnmdgbnophclnaaPk
namespace Go.Proofs.Ytnmdgbnophclnaa
open Go.RowKit Go.Sort Ieee
set_option linter.unusedSimpArgs false

theorem b10Long_q (a b : Option Addr) (n1 c1 n2 c2 : Nat) (w : World) : Calls Try.prog 6 #[.slice a n1 c1, .slice b n2 c2] w fun e w' => e = .returned (.bool (decide (1048576 < n1) || decide (1048576 < n2))) ∧ w' = w := by
  cases h1 : decide (1048576 < n1)
  · have h1' : decide ((1048576 : Int) < (n1 : Int)) = false := by simp at h1 ⊢; omega
    have e2 : decide ((1048576 : Int) < (n2 : Int)) = decide (1048576 < n2) := by rw [decide_eq_decide]; omega
    go_enter Try.func6, Try.ntmps6
    go_wp2
    go_ret
    exact ⟨by simp, rfl⟩
  · have h1' : decide ((1048576 : Int) < (n1 : Int)) = true := by simp at h1 ⊢; omega
    go_enter Try.func6, Try.ntmps6
    go_wp2
    go_ret
    exact ⟨by simp, rfl⟩

set_option maxHeartbeats 1000000 in
theorem b10At_ok (a : Option Addr) (n c k m : Nat) (w : World) (hb : Bytes w a n) (hk : k ≤ 100) (hm : 2 ≤ m) (hm2 : m ≤ 100) :
    Calls Try.prog 17 #[.slice a n c, .int .i64 k, .int .i64 m] w fun e w' => (∃ r : Nat, r < m ∧ e = .returned (.int .i64 r)) ∧ w' = w := by
  have h1 : ¬ ((m : Int) ≤ 1) := by omega
  have hm0 : ¬ ((m : Int) = 0) := by omega
  by_cases hlt : k < n
  · obtain ⟨b, o, rfl, hbl, v, hv, hc⟩ := hb k hlt
    have hi : (k : Int) < (n : Int) := by omega
    have hr : v % m < m := Nat.mod_lt _ (by omega)
    have ht : Int.tmod (v : Int) (m : Int) = ((v % m : Nat) : Int) := by rw [Int.tmod_eq_emod_of_nonneg (by omega)]; rfl
    have hw : IntKind.i64.wrap ((v % m : Nat) : Int) = ((v % m : Nat) : Int) := IntWalk.i64_in _ ⟨by omega, by omega⟩
    have HR := keep hr
    clear hb hr hbl
    go_enter Try.func17, Try.ntmps17
    go_wp2_with fail
    go_ret
    exact ⟨⟨v % m, HR.out, by first | rfl | simp⟩, rfl⟩
  · have hi : ¬ ((k : Int) < (n : Int)) := by omega
    have hi2 : ((n : Int) ≤ (k : Int)) := by omega
    obtain ⟨v, hv⟩ : ∃ v : Nat, v = 37 * k + 11 := ⟨_, rfl⟩
    have hr : v % m < m := Nat.mod_lt _ (by omega)
    have hw1 : IntKind.i64.wrap ((k : Int) * 37) = (k : Int) * 37 := IntWalk.i64_in _ ⟨by omega, by omega⟩
    have hw2 : IntKind.i64.wrap ((k : Int) * 37 + 11) = (v : Int) := by
      rw [show (k : Int) * 37 + 11 = (v : Int) by omega]
      exact IntWalk.i64_in _ ⟨by omega, by omega⟩
    have ht : Int.tmod (v : Int) (m : Int) = ((v % m : Nat) : Int) := by rw [Int.tmod_eq_emod_of_nonneg (by omega)]; rfl
    have hw : IntKind.i64.wrap ((v % m : Nat) : Int) = ((v % m : Nat) : Int) := IntWalk.i64_in _ ⟨by omega, by omega⟩
    have HR := keep hr
    clear hb hr hv
    go_enter Try.func17, Try.ntmps17
    go_wp2_with fail
    go_ret
    exact ⟨⟨v % m, HR.out, by first | rfl | simp⟩, rfl⟩

theorem chgL_getD (fs : List Int) (c : Int) (i k : Nat) (h : k < fs.length) : (chgL fs c i).getD k 0 = fs.getD k 0 + if k < i then c else 0 := by
  rw [getD_at _ k (by rw [chgL_length]; exact h), chgL_at]
theorem shiftF_getD (W H : Nat) (X Y : Int) (fs : List Int) (k : Nat) (h : k < W * H) : (shiftF W H X Y fs).getD k 0 = fs.getD (idx W H (((k % W : Nat) : Int) - X) (((k / W : Nat) : Int) - Y)).toNat 0 := by
  rw [getD_at _ k (by rw [shiftF_length]; exact h)]
  unfold shiftF
  rw [List.getElem_map, List.getElem_range]
theorem charge_move (W H : Nat) (h : Sides W H) (X Y : Int) (ps : List QP) (bk : Int) : chargeQ W H (moveQ W H X Y ps) bk = shiftF W H X Y (chargeQ W H ps bk) := by
  refine List.ext_getElem (by rw [chargeQ_length, shiftF_length]) fun k h1 h2 => ?_
  rw [shiftF_length] at h2
  rw [← getD_at _ k h1, ← getD_at _ k (by rw [shiftF_length]; exact h2), shiftF_getD W H X Y _ k h2]
  obtain ⟨c, e, hc⟩ := idx_nat W H h (((k % W : Nat) : Int) - X) (((k / W : Nat) : Int) - Y)
  unfold chargeQ
  rw [depQ_move W H h, chgL_getD _ _ _ _ (by rw [shiftF_length]; exact h2), if_pos h2, shiftF_getD W H X Y _ k h2, e, Int.toNat_natCast, chgL_getD _ _ _ _ (by rw [depQ_length]; exact hc), if_pos hc]
theorem charge_small (W H : Nat) (ps : List QP) (bk : Int) (hok : ∀ p ∈ ps, p.ok) (hl : ps.length ≤ 6) (hbk : bk.natAbs ≤ 2) : Small (chargeQ W H ps bk) 10000 := by
  intro n hn
  unfold chargeQ at hn
  obtain ⟨k, hk, rfl⟩ := List.mem_iff_getElem.1 hn
  have hs := (depQ_small W H ps hok).at k
  rw [chgL_at]
  split <;> omega
theorem three_word : wd single 3 24 = 1077936128 := by decide +kernel
theorem word_order : FloatKind.f32.format.order 0 0 = some .eq ∧ FloatKind.f32.format.order 1048576000 1048576000 = some .eq := by decide +kernel
theorem cloud_filter {W H m b : Nat} {ps : List QP} (h : CloudOk W H ps m b) (f : QP → Bool) : CloudOk W H (ps.filter f) m b :=
  ⟨h.sides, Nat.le_trans (List.length_filter_le f ps) h.len, fun p hp => h.parts p (List.mem_filter.1 hp).1, h.finm, h.finb⟩
theorem filter_both (ps : List QP) (f : QP → Bool) : (ps.filter f).length + (ps.filter (fun p => !f p)).length = ps.length := by
  induction ps with
  | nil => rfl
  | cons p ps ih => cases hf : f p <;> simp [hf] <;> omega
end Go.Proofs.Ytnmdgbnophclnaa
