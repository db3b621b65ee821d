/- Contracts: one number repeated; fields that are the same everywhere. -/
import Derived.Test.YtmnpijhnfdiomaaMd
import Derived.Laws.CopyOwn
import Derived.Deep.RegionLaw
namespace Go.Proofs.Ytmnpijhnfdiomaa
open Go.RowKit Go.Sort Ieee
set_option linter.unusedSimpArgs false

def two32 : Int := 4294967296
def mask32 : Int := 4294967295
theorem and32u (n : Nat) (h : n < 1000) : bits .and .u64 (n : Int) 4294967295 = (n : Int) := by
  have h1 := (bits_nat .u64 64 (by decide) (fun n h0 h1 => by rw [IntKind.wrap_u64]; omega) n 4294967295 (by omega) (by decide)).1
  rw [show ((4294967295 : Nat) : Int) = 4294967295 from rfl] at h1
  rw [h1, show (4294967295 : Nat) = 2 ^ 32 - 1 from rfl, Nat.and_two_pow_sub_one_eq_mod]
  omega

set_option maxHeartbeats 4000000 in
set_option maxRecDepth 20000 in
theorem Mul64_small (n : Nat) (hn : n < 1000) (w : World) : Calls Try.prog 93 #[.int .u64 1, .int .u64 n] w fun e w' => e = .returned (.tuple #[.int .u64 0, .int .u64 n]) ∧ w' = w := by
  have a1 : bits .and .u64 1 4294967295 = 1 := and32u 1 (by omega)
  have a2 := and32u n hn
  have a0 : bits .and .u64 0 4294967295 = 0 := and32u 0 (by omega)
  have d1 : (n : Int) / 4294967296 = 0 := by omega
  have d2 : (1 : Int) / 4294967296 = 0 := by omega
  have w1 : IntKind.u64.wrap (n : Int) = (n : Int) := by rw [IntKind.wrap_u64]; omega
  go_enter Try.func93, Try.ntmps93
  go_wp2_with fail
  go_ret2
  exact ⟨rfl, rfl⟩

set_option maxHeartbeats 4000000 in
set_option maxRecDepth 20000 in
theorem Mul_small (n : Nat) (hn : n < 1000) (w : World) : Calls Try.prog 89 #[.int .u64 1, .int .u64 n] w fun e w' => e = .returned (.tuple #[.int .u64 0, .int .u64 n]) ∧ w' = w := by
  have M := keep (fun w => Mul64_small n hn w)
  have w1 : IntKind.u64.wrap (n : Int) = (n : Int) := by rw [IntKind.wrap_u64]; omega
  go_enter Try.func89, Try.ntmps89
  go_wp2_with fail
  refine (M.out _).mono ?_
  rintro e w' ⟨rfl, rfl⟩
  go_wp2_with fail
  go_ret2
  exact ⟨rfl, rfl⟩

theorem run_mkF0 (n : Nat) (hn : n ≤ 1000) (w : World) : (Instr.makeSlice 30 (.int .i64 n) (.int .i64 n)).run Try.prog w = .ok (.slice (some ⟨w.heap.size, 0, none⟩) n n) (w.alloc (.cells (List.replicate n (Value.float .f32 0)).toArray 33)) := by
  rw [run_mkF n hn w, ← zeros_word, List.toArray_replicate]
theorem size_f32 : (Try.prog.info? 33).map (·.size) = some 1 := by kernel_rfl

/-- The first m of n cells hold a number. -/
def repL (v n m : Nat) : List Value := List.replicate m (Value.float .f32 v) ++ List.replicate (n - m) (Value.float .f32 0)
theorem repL_length (v n m : Nat) (h : m ≤ n) : (repL v n m).length = n := by unfold repL; simp; omega
theorem repL_at (v n m j : Nat) (h : j < m) : (repL v n m)[j]? = some (.float .f32 v) := by
  unfold repL
  rw [List.getElem?_append_left (by simpa using h), List.getElem?_replicate, if_pos h]
theorem repL_copy (v n m c : Nat) (h : m + c ≤ n) : splice (repL v n m) m (List.replicate c (Value.float .f32 v)) = repL v n (m + c) := by
  unfold splice repL
  rw [List.length_replicate, List.take_append_of_le_length (by simp), List.take_of_length_le (by simp), List.drop_append, List.length_replicate, List.drop_of_length_le (by simp), List.nil_append, List.drop_replicate, ← List.append_assoc, List.replicate_append_replicate]
  congr 2
  omega
theorem repL_full (v n : Nat) : repL v n n = List.replicate n (Value.float .f32 v) := by unfold repL; simp

set_option maxHeartbeats 4000000 in
set_option maxRecDepth 20000 in
theorem Repeat_ok (v n : Nat) (hn0 : 1 ≤ n) (hn : n ≤ 49) (b : Nat) (w : World) (hh : Has w b 33 #[.float .f32 v]) :
    Calls Try.prog 75 #[.slice (some ⟨b, 0, none⟩) 1 1, .int .i64 n] w fun e w' => ∃ g : Nat, e = .returned (.slice (some ⟨g, 0, none⟩) n n) ∧ Has w' g 33 (List.replicate n (Value.float .f32 v)).toArray ∧ Below w.heap.size w w' := by
  have MU := keep (fun w => Mul_small n (by omega) w)
  have MK := keep (run_mkF0 n (by omega))
  have SZ := keep size_f32
  have lb := hh.in_heap
  have c1 : w.cell? ⟨b, 0, none⟩ = some (.float .f32 v) := hh.cells 0
  have C1 := keep c1
  have w1 : IntKind.u64.wrap (n : Int) = (n : Int) := by rw [IntKind.wrap_u64]; omega
  have w2 : IntKind.i64.wrap (n : Int) = (n : Int) := IntWalk.i64_in _ ⟨by omega, by omega⟩
  have hn1 : ¬ ((n : Int) < 0) := by omega
  have hn2 : ¬ ((9223372036854775807 : Int) < (n : Int)) := by omega
  clear c1 hh
  go_enter Try.func75, Try.ntmps75
  go_wp2_with fail
  refine (MU.out _).mono ?_
  rintro e w' ⟨rfl, rfl⟩
  have mk := MK.out w'
  have R0 := keep (show (w'.alloc (.cells (List.replicate n (Value.float .f32 0)).toArray 33)).heap[w'.heap.size]? = some (.cells (List.replicate n (Value.float .f32 0)).toArray 33 (0, 0)) from Has.made w' 33 (List.replicate n (Value.float .f32 0)).toArray)
  have B0 := keep ((Below.refl w'.heap.size w').alloc (Nat.le_refl _) (.cells (List.replicate n (Value.float .f32 0)).toArray 33))
  clear MU
  go_wp2_with (refine wpList_copy_splice rfl (.tmp 31) (.tmp 32) 30 30 rfl 33 Try.underlying30 SZ.out (some ⟨w'.heap.size, 0, none⟩) (some ⟨b, 0, none⟩) n n 1 1 rfl rfl w'.heap.size 0 (List.replicate n (Value.float .f32 0)) _ R0.out [.float .f32 v] (by show 1 = Nat.min 1 n; exact (Nat.min_eq_left hn0).symm) ?hpos ?hfit ?h1 w'.heap.size w' B0.out (Nat.le_refl _) ?_)
  case hpos =>
    intro j u hj
    cases j with
    | zero =>
      simp only [List.getElem?_cons_zero, Option.some.injEq] at hj
      subst hj
      exact C1.out
    | succ j => simp at hj
  case hfit => first | (simp; done) | (simp; omega)
  case h1 => first | (simp; done) | (intro u hu; rw [List.mem_singleton.1 hu]; rfl)
  intro w4 hg4 hb4
  have G4 : Has w4 w'.heap.size 33 (repL v n 1).toArray := by
    have e := repL_copy v n 0 1 (by omega)
    rw [show repL v n 0 = List.replicate n (Value.float .f32 0) by unfold repL; simp] at e
    rw [← show splice (List.replicate n (Value.float .f32 0)) 0 [.float .f32 v] = repL v n 1 from e]
    exact hg4
  have G4 := keep G4
  have B4 := keep hb4
  clear hg4 hb4 R0 B0 mk w1 w2 hn1 hn2 C1 MK
  go_wp2_with fail
  go_loopw [8] (fun s wr => ∃ m : Nat, 1 ≤ m ∧ m ≤ n ∧ s = .int .i64 m ∧ Kept (Has wr w'.heap.size 33 (repL v n m).toArray) ∧ Kept (Below w'.heap.size w' wr)) (fun s _ => n - (intOf s).toNat)
  case atStart => exact ⟨1, Nat.le_refl _, hn0, rfl, G4, B4⟩
  case round =>
    clear G4 B4
    obtain ⟨m, hm0, hm, rfl, hg, hb⟩ := hrel
    by_cases hlt : m < n
    · have hG : Has wr.drew w'.heap.size 33 (repL v n m).toArray := hg.out
      have HG := keep (show (wr.drew).heap[w'.heap.size]? = some (.cells (repL v n m).toArray 33 (0, 0)) from hG)
      have HB := keep (Below.drew hb.out)
      have RL := keep (repL_length v n m hm)
      have RA := keep (fun j h => repL_at v n m j h)
      have RC := keep (repL_copy v n m (Nat.min m (n - m)) (by have := Nat.min_le_right m (n - m); have : Nat.min m (n - m) ≤ n - m := Nat.min_le_right m (n - m); omega))
      clear hG hg hb
      go_wp2_with fail
      have HP : Kept (∀ j u, (List.replicate (Nat.min m (n - m)) (Value.float .f32 v))[j]? = some u → wr.drew.cell? ((⟨w'.heap.size, 0, none⟩ : Addr).add j) = some u) := keep (fun j u hj => by
        have hjl : j < Nat.min m (n - m) := by
          obtain ⟨h1, _⟩ := List.getElem?_eq_some_iff.1 hj
          rwa [List.length_replicate] at h1
        rw [List.getElem?_replicate, if_pos hjl] at hj
        have hjm : j < m := Nat.lt_of_lt_of_le hjl (Nat.min_le_left _ _)
        rw [Addr.add_lit, Nat.zero_add]
        have hc : Has wr.drew w'.heap.size 33 (repL v n m).toArray := HG.out
        rw [hc.cells j, List.getElem?_toArray, RA.out j hjm, hj])
      have HM := keep (show m + (List.replicate (Nat.min m (n - m)) (Value.float .f32 v)).length ≤ (repL v n m).length by
        rw [RL.out, List.length_replicate]
        have : Nat.min m (n - m) ≤ n - m := Nat.min_le_right m (n - m)
        omega)
      have HO : Kept (∀ u ∈ List.replicate (Nat.min m (n - m)) (Value.float .f32 v), u.oneCell' = true) := keep (fun u hu => by rw [(List.mem_replicate.1 hu).2]; rfl)
      go_region_law (refine step_copy_splice rfl (.tmp 41) (.tmp 44) 30 30 rfl 33 Try.underlying30 SZ.out (some ⟨w'.heap.size, m, none⟩) (some ⟨w'.heap.size, 0, none⟩) (n - m) (n - m) m n (by simp [Act.eval, Act.put]; omega) (by simp [Act.eval, Act.put]) w'.heap.size m (repL v n m) _ HG.out (List.replicate (Nat.min m (n - m)) (.float .f32 v)) (by rw [List.length_replicate]) (fun _ => ⟨rfl, _, rfl, HP.out⟩) HM.out HO.out w'.heap.size w' HB.out (Nat.le_refl _) ?_; intro w5 hg5 hb5)
      have G5 : Kept (Has w5 w'.heap.size 33 (repL v n (m + Nat.min m (n - m))).toArray) := keep (by
        rw [← RC.out]
        exact hg5)
      have B5 := keep hb5
      have mn1 : 1 ≤ Nat.min m (n - m) := by
        have : Nat.min m (n - m) = m ∨ Nat.min m (n - m) = n - m := by
          rcases Nat.le_total m (n - m) with h | h
          · exact .inl (Nat.min_eq_left h)
          · exact .inr (Nat.min_eq_right h)
        omega
      have mn2 : Nat.min m (n - m) ≤ n - m := Nat.min_le_right m (n - m)
      clear hg5 hb5 HG HB RL RA RC HP HM HO
      have wm : IntKind.i64.wrap ((m : Int) + ((Nat.min m (n - m) : Nat) : Int)) = (m : Int) + ((Nat.min m (n - m) : Nat) : Int) := IntWalk.i64_in _ ⟨by omega, by omega⟩
      generalize Nat.min m (n - m) = q at *
      go_wp2_with fail
      go_roundw
      case rel => exact ⟨m + q, by omega, by omega, by go_num, G5⟩
      case measure => simp [intOf]; omega
    · obtain rfl : m = n := by omega
      have hg2 := hg.out
      rw [repL_full] at hg2
      have HG := keep hg2
      clear hg2
      go_wp2_with fail
      go_ret
      exact ⟨_, rfl, HG.out, hb.out⟩
end Go.Proofs.Ytmnpijhnfdiomaa
