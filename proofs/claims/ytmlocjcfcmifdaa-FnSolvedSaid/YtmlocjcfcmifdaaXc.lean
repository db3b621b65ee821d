/- Contracts: one number repeated; a row copied. No condition but that the row's numbers are there. -/
import Derived.Test.YtmlocjcfcmifdaaXb
import Derived.Laws.CopyOwn
import Derived.Laws.OwnMore
import Derived.Deep.RegionLaw
namespace Go.Proofs.Ytmlocjcfcmifdaa
open Go.RowKit Go.Sort Ieee
set_option linter.unusedSimpArgs false
set_option linter.unusedVariables false

theorem xand32u (n : Nat) (h : n < 1000) : bits .and .u64 (n : Int) 4294967295 = (n : Int) := by
  have h1 := (bits_nat .u64 64 (by decide) (fun n h0 h1 => by rw [IntKind.wrap_u64]; omega) n 4294967295 (by omega) (by decide)).1
  rw [show ((4294967295 : Nat) : Int) = 4294967295 from rfl] at h1
  rw [h1, show (4294967295 : Nat) = 2 ^ 32 - 1 from rfl, Nat.and_two_pow_sub_one_eq_mod]
  omega

set_option maxHeartbeats 4000000 in
set_option maxRecDepth 20000 in
theorem xMul64 (n : Nat) (hn : n < 1000) (w : World) : Calls Try.prog 97 #[.int .u64 1, .int .u64 n] w fun e w' => e = .returned (.tuple #[.int .u64 0, .int .u64 n]) ∧ w' = w := by
  have a1 : bits .and .u64 1 4294967295 = 1 := xand32u 1 (by omega)
  have a2 := xand32u n hn
  have a0 : bits .and .u64 0 4294967295 = 0 := xand32u 0 (by omega)
  have d1 : (n : Int) / 4294967296 = 0 := by omega
  have d2 : (1 : Int) / 4294967296 = 0 := by omega
  have w1 : IntKind.u64.wrap (n : Int) = (n : Int) := by rw [IntKind.wrap_u64]; omega
  go_enter Try.func97, Try.ntmps97
  go_wp2_with fail
  go_ret2
  exact ⟨rfl, rfl⟩

set_option maxHeartbeats 4000000 in
set_option maxRecDepth 20000 in
theorem xMul (n : Nat) (hn : n < 1000) (w : World) : Calls Try.prog 79 #[.int .u64 1, .int .u64 n] w fun e w' => e = .returned (.tuple #[.int .u64 0, .int .u64 n]) ∧ w' = w := by
  have M := keep (fun w => xMul64 n hn w)
  have w1 : IntKind.u64.wrap (n : Int) = (n : Int) := by rw [IntKind.wrap_u64]; omega
  go_enter Try.func79, Try.ntmps79
  go_wp2_with fail
  refine (M.out _).mono ?_
  rintro e w' ⟨rfl, rfl⟩
  go_wp2_with fail
  go_ret2
  exact ⟨rfl, rfl⟩

theorem xrun_mkF0 (n : Nat) (hn : n ≤ 1000) (w : World) : (Instr.makeSlice 27 (.int .i64 n) (.int .i64 n)).run Try.prog w = .ok (.slice (some ⟨w.heap.size, 0, none⟩) n n) (w.alloc (.cells (List.replicate n (Value.float .f32 0)).toArray 28)) := by
  rw [run_mkW n hn w, List.toArray_replicate]
theorem xsize_f32 : (Try.prog.info? 28).map (·.size) = some 1 := by kernel_rfl

/-- The first m of n cells hold a number. -/
def xrepL (v n m : Nat) : List Value := List.replicate m (Value.float .f32 v) ++ List.replicate (n - m) (Value.float .f32 0)
theorem xrepL_length (v n m : Nat) (h : m ≤ n) : (xrepL v n m).length = n := by unfold xrepL; simp; omega
theorem xrepL_at (v n m j : Nat) (h : j < m) : (xrepL v n m)[j]? = some (.float .f32 v) := by
  unfold xrepL
  rw [List.getElem?_append_left (by simpa using h), List.getElem?_replicate, if_pos h]
theorem xrepL_copy (v n m c : Nat) (h : m + c ≤ n) : splice (xrepL v n m) m (List.replicate c (Value.float .f32 v)) = xrepL v n (m + c) := by
  unfold splice xrepL
  rw [List.length_replicate, List.take_append_of_le_length (by simp), List.take_of_length_le (by simp), List.drop_append, List.length_replicate, List.drop_of_length_le (by simp), List.nil_append, List.drop_replicate, ← List.append_assoc, List.replicate_append_replicate]
  congr 2
  omega
theorem xrepL_full (v n : Nat) : xrepL v n n = List.replicate n (Value.float .f32 v) := by unfold xrepL; simp

set_option maxHeartbeats 4000000 in
set_option maxRecDepth 20000 in
theorem xRepeat (v n : Nat) (hn0 : 1 ≤ n) (hn : n ≤ 49) (b : Nat) (w : World) (hh : Has w b 28 #[.float .f32 v]) :
    Calls Try.prog 44 #[.slice (some ⟨b, 0, none⟩) 1 1, .int .i64 n] w fun e w' => ∃ g : Nat, e = .returned (.slice (some ⟨g, 0, none⟩) n n) ∧ w.heap.size ≤ g ∧ Has w' g 28 (List.replicate n (Value.float .f32 v)).toArray ∧ Below w.heap.size w w' := by
  have MU := keep (fun w => xMul n (by omega) w)
  have MK := keep (xrun_mkF0 n (by omega))
  have SZ := keep xsize_f32
  have lb := hh.in_heap
  have c1 : w.cell? ⟨b, 0, none⟩ = some (.float .f32 v) := hh.cells 0
  have C1 := keep c1
  have w1 : IntKind.u64.wrap (n : Int) = (n : Int) := by rw [IntKind.wrap_u64]; omega
  have w2 : IntKind.i64.wrap (n : Int) = (n : Int) := IntWalk.i64_in _ ⟨by omega, by omega⟩
  have hn1 : ¬ ((n : Int) < 0) := by omega
  have hn2 : ¬ ((9223372036854775807 : Int) < (n : Int)) := by omega
  clear c1 hh
  go_enter Try.func44, Try.ntmps44
  go_wp2_with fail
  refine (MU.out _).mono ?_
  rintro e w' ⟨rfl, rfl⟩
  have mk := MK.out w'
  have R0 := keep (show (w'.alloc (.cells (List.replicate n (Value.float .f32 0)).toArray 28)).heap[w'.heap.size]? = some (.cells (List.replicate n (Value.float .f32 0)).toArray 28 (0, 0)) from Has.made w' 28 (List.replicate n (Value.float .f32 0)).toArray)
  have B0 := keep ((Below.refl w'.heap.size w').alloc (Nat.le_refl _) (.cells (List.replicate n (Value.float .f32 0)).toArray 28))
  clear MU
  go_wp2_with (refine wpList_copy_splice rfl (.tmp 31) (.tmp 32) 27 27 rfl 28 Try.underlying27 SZ.out (some ⟨w'.heap.size, 0, none⟩) (some ⟨b, 0, none⟩) n n 1 1 rfl rfl w'.heap.size 0 (List.replicate n (Value.float .f32 0)) _ R0.out [.float .f32 v] (by show 1 = Nat.min 1 n; exact (Nat.min_eq_left hn0).symm) ?hpos ?hfit ?h1 w'.heap.size w' B0.out (Nat.le_refl _) ?_)
  case hpos =>
    intro j u hj
    cases j with
    | zero =>
      simp only [List.getElem?_cons_zero, Option.some.injEq] at hj
      subst hj
      exact C1.out
    | succ j => simp at hj
  case hfit => first | (simp; done) | (simp; omega)
  case h1 => first | (simp; done) | (intro u hu; rw [List.mem_singleton.1 hu]; rfl)
  intro w4 hg4 hb4
  have G4 : Has w4 w'.heap.size 28 (xrepL v n 1).toArray := by
    have e := xrepL_copy v n 0 1 (by omega)
    rw [show xrepL v n 0 = List.replicate n (Value.float .f32 0) by unfold xrepL; simp] at e
    rw [← show splice (List.replicate n (Value.float .f32 0)) 0 [.float .f32 v] = xrepL v n 1 from e]
    exact hg4
  have G4 := keep G4
  have B4 := keep hb4
  clear hg4 hb4 R0 B0 mk w1 w2 hn1 hn2 C1 MK
  go_wp2_with fail
  go_loopw [8] (fun s wr => ∃ m : Nat, 1 ≤ m ∧ m ≤ n ∧ s = .int .i64 m ∧ Kept (Has wr w'.heap.size 28 (xrepL v n m).toArray) ∧ Kept (Below w'.heap.size w' wr)) (fun s _ => n - (intOf s).toNat)
  case atStart => exact ⟨1, Nat.le_refl _, hn0, rfl, G4, B4⟩
  case round =>
    clear G4 B4
    obtain ⟨m, hm0, hm, rfl, hg, hb⟩ := hrel
    by_cases hlt : m < n
    · have hG : Has wr.drew w'.heap.size 28 (xrepL v n m).toArray := hg.out
      have HG := keep (show (wr.drew).heap[w'.heap.size]? = some (.cells (xrepL v n m).toArray 28 (0, 0)) from hG)
      have HB := keep (Below.drew hb.out)
      have RL := keep (xrepL_length v n m hm)
      have RA := keep (fun j h => xrepL_at v n m j h)
      have RC := keep (xrepL_copy v n m (Nat.min m (n - m)) (by have := Nat.min_le_right m (n - m); have : Nat.min m (n - m) ≤ n - m := Nat.min_le_right m (n - m); omega))
      clear hG hg hb
      go_wp2_with fail
      have HP : Kept (∀ j u, (List.replicate (Nat.min m (n - m)) (Value.float .f32 v))[j]? = some u → wr.drew.cell? ((⟨w'.heap.size, 0, none⟩ : Addr).add j) = some u) := keep (fun j u hj => by
        have hjl : j < Nat.min m (n - m) := by
          obtain ⟨h1, _⟩ := List.getElem?_eq_some_iff.1 hj
          rwa [List.length_replicate] at h1
        rw [List.getElem?_replicate, if_pos hjl] at hj
        have hjm : j < m := Nat.lt_of_lt_of_le hjl (Nat.min_le_left _ _)
        rw [Addr.add_lit, Nat.zero_add]
        have hc : Has wr.drew w'.heap.size 28 (xrepL v n m).toArray := HG.out
        rw [hc.cells j, List.getElem?_toArray, RA.out j hjm, hj])
      have HM := keep (show m + (List.replicate (Nat.min m (n - m)) (Value.float .f32 v)).length ≤ (xrepL v n m).length by
        rw [RL.out, List.length_replicate]
        have : Nat.min m (n - m) ≤ n - m := Nat.min_le_right m (n - m)
        omega)
      have HO : Kept (∀ u ∈ List.replicate (Nat.min m (n - m)) (Value.float .f32 v), u.oneCell' = true) := keep (fun u hu => by rw [(List.mem_replicate.1 hu).2]; rfl)
      go_region_law (refine step_copy_splice rfl (.tmp 41) (.tmp 44) 27 27 rfl 28 Try.underlying27 SZ.out (some ⟨w'.heap.size, m, none⟩) (some ⟨w'.heap.size, 0, none⟩) (n - m) (n - m) m n (by simp [Act.eval, Act.put]; omega) (by simp [Act.eval, Act.put]) w'.heap.size m (xrepL v n m) _ HG.out (List.replicate (Nat.min m (n - m)) (.float .f32 v)) (by rw [List.length_replicate]) (fun _ => ⟨rfl, _, rfl, HP.out⟩) HM.out HO.out w'.heap.size w' HB.out (Nat.le_refl _) ?_; intro w5 hg5 hb5)
      have G5 : Kept (Has w5 w'.heap.size 28 (xrepL v n (m + Nat.min m (n - m))).toArray) := keep (by
        rw [← RC.out]
        exact hg5)
      have B5 := keep hb5
      have mn1 : 1 ≤ Nat.min m (n - m) := by
        have : Nat.min m (n - m) = m ∨ Nat.min m (n - m) = n - m := by
          rcases Nat.le_total m (n - m) with h | h
          · exact .inl (Nat.min_eq_left h)
          · exact .inr (Nat.min_eq_right h)
        omega
      have mn2 : Nat.min m (n - m) ≤ n - m := Nat.min_le_right m (n - m)
      clear hg5 hb5 HG HB RL RA RC HP HM HO
      have wm : IntKind.i64.wrap ((m : Int) + ((Nat.min m (n - m) : Nat) : Int)) = (m : Int) + ((Nat.min m (n - m) : Nat) : Int) := IntWalk.i64_in _ ⟨by omega, by omega⟩
      generalize Nat.min m (n - m) = q at *
      go_wp2_with fail
      go_roundw
      case rel => exact ⟨m + q, by omega, by omega, by go_num, G5⟩
      case measure => simp [intOf]; omega
    · obtain rfl : m = n := by omega
      have hg2 := hg.out
      rw [xrepL_full] at hg2
      have HG := keep hg2
      clear hg2
      go_wp2_with fail
      go_ret
      exact ⟨_, rfl, Nat.le_refl _, HG.out, hb.out⟩

/-- The cells of a row as a list. -/
def wList (n : Nat) (a : Nat → Nat) : List Value := (List.range n).map fun i => Value.float .f32 (a i)
theorem wList_length (n : Nat) (a : Nat → Nat) : (wList n a).length = n := by unfold wList; simp
theorem wList_at (n : Nat) (a : Nat → Nat) (i : Nat) (h : i < n) : (wList n a)[i]? = some (.float .f32 (a i)) := by unfold wList; simp [h]
theorem wList_one (n : Nat) (a : Nat → Nat) : ∀ u ∈ wList n a, u.oneCell' = true := by
  intro u hu
  unfold wList at hu
  obtain ⟨i, _, rfl⟩ := List.mem_map.1 hu
  rfl
theorem wList_snoc (n : Nat) (a : Nat → Nat) : wList (n + 1) a = wList n a ++ [.float .f32 (a n)] := by
  unfold wList; rw [List.range_succ, List.map_append]; rfl
theorem own_fw {w : World} {B g c n : Nat} {a : Nat → Nat} (h : w.ownsRow B 28 1 (.slice (some ⟨g, 0, none⟩) n c) n (wList n a)) : FW w g n a := by
  refine ⟨(h.lt g rfl).2, fun i hi => ?_⟩
  have h2 := h.cells (g := g) rfl i _ (wList_at n a i hi)
  rwa [Addr.add_lit, Nat.zero_add] at h2
theorem xeql_nil (a : Option Addr) (l c : Nat) (w : World) : (binOp .eql 27 (.slice a l c) (.slice none 0 0)).run Try.prog w = .ok (.bool a.isNone) w := by
  have h : (binOp .eql 27 (.slice a l c) (.slice none 0 0)) = (do let b ← Op.equal 27 (.slice a l c) (.slice none 0 0); pure (.bool b)) := rfl
  rw [h]
  simp only [Sem.run_bind, Sem.run_pure, run_equal_slice_nil w 27 28 a l c Try.underlying27, Result.andThen_ok]

set_option maxHeartbeats 1000000 in
set_option maxRecDepth 20000 in
theorem CloneW_ok (g n c : Nat) (a : Nat → Nat) (w : World) (h : FW w g n a) (hp : 0 < n) (hN : n ≤ 1000) :
    Calls Try.prog 47 #[.slice (some ⟨g, 0, none⟩) n c] w fun e w' => ∃ (g2 d : Nat) (cur : Array Value), e = .returned (.slice (some ⟨g2, 0, none⟩) n d) ∧ w.heap.size ≤ g2 ∧ Has w' g2 28 cur ∧ CW cur n a ∧ n ≤ d ∧ Below w.heap.size w w' := by
  obtain ⟨i0, hi0, hz0, hz1, hz2⟩ := info_parts xinfoF32
  have HI := keep hi0
  have HZ0 := keep hz0
  have HZ1 := keep hz1
  have HZ2 := keep hz2
  clear hi0 hz0 hz1 hz2
  have HC := keep h
  have lg := h.1
  have R := keep (Has.made w 28 #[])
  have O5 : Kept ((w.alloc (.cells #[] 28)).ownsRow w.heap.size 28 1 (.slice (some ⟨w.heap.size, 0, none⟩) 0 0) 0 []) := keep ⟨rfl, .inr ⟨w.heap.size, 0, #[], rfl, Nat.le_refl _, R.out, Nat.le_refl _, by simp [maxLen], rfl, rfl⟩⟩
  have en := xeql_nil (some ⟨g, 0, none⟩) n c
  have HL := keep (wList_length n a)
  clear h R
  go_enter Try.func47, Try.ntmps47
  go_wp2_with (at_builtin; go_loud (refine wpList_append_own_at _ rfl _ _ 27 rfl w.heap.size 28 i0 _ 1 4 Try.underlying27 HI.out HZ0.out HZ1.out HZ2.out rfl (by decide) (.slice (some ⟨w.heap.size, 0, none⟩) 0 0) 0 _ rfl O5.out ⟨g, 0, none⟩ n c (wList n a) rfl (by rw [HL.out, Nat.mul_one]) ?c1 (wList_one n a) ?c3 ?c4 ?c5 ?_))
  case c1 =>
    intro j u hj
    have hjl : j < n := by
      have := List.getElem?_eq_some_iff.1 hj
      obtain ⟨h1, _⟩ := this
      rwa [HL.out] at h1
    have h1 := HC.out.2 j hjl
    rw [wList_at n a j hjl] at hj
    rw [Addr.add_lit, Nat.zero_add, ← hj]
    exact (((Below.refl w.heap.size w).alloc (Nat.le_refl _) (.cells #[] 28)).cell (p := ⟨g, j, none⟩) lg).trans h1
  case c3 => unfold maxLen; omega
  case c4 => omega
  case c5 => first | omega | (simp only [World.size_alloc]; omega)
  intro v' w5 hown' hgrow _ _
  rcases hown'.2 with ⟨he, hn⟩ | ⟨g2, d, cur, he, hB, hg2, hnc, hcm, hcs, htake⟩
  · omega
  · have bX : Below w.heap.size (w.alloc (.cells #[] 28)) w5 := (Below.refl w.heap.size _).grown hgrow (by simp only [World.size_alloc]; omega) (fun b e => (O5.out.lt b e).1)
    have B6 := keep (((Below.refl w.heap.size w).alloc (Nat.le_refl _) (.cells #[] 28)).trans bX)
    subst he
    have HG := keep hg2
    simp only [Nat.zero_add, Nat.mul_one, List.nil_append] at htake hnc hcs
    have HC2 : Kept (CW cur n a) := keep ⟨by omega, fun i hi => by
      have e := wList_at n a i hi
      rw [← htake, List.getElem?_take_of_lt hi, Array.getElem?_toList] at e
      exact e⟩
    clear hown' hgrow bX hg2 en htake
    go_wp2_with fail
    go_ret
    exact ⟨g2, d, cur, by simp, hB, HG.out, HC2.out, by omega, B6.out⟩
end Go.Proofs.Ytmlocjcfcmifdaa
