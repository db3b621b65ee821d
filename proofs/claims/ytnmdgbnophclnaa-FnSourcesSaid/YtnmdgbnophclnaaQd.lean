/- Plain facts on words: products by positive numbers, units of seeds, halves, and the mean of a particle with itself. No program. Contracts: seeds, their units, and a bell of size 0. Contract: a bell of size 0. Contracts: speeds spread by 0, speeds halved. -/
import Derived.Test.YtnmdgbnophclnaaRv
import Derived.Test.YtnmdgbnophclnaaHd
import Derived.Test.YtnmdgbnophclnaaIa
import Derived.Test.YtnmdgbnophclnaaIc
namespace Go.Proofs.Ytnmdgbnophclnaa
open Ieee

theorem mul_wd_pos {f : Format} (F : Fit f) (hf : f.binade ≤ f.infRung) {k l : Nat} {a b : Int} (hb0 : 0 < b) (hk : k + f.fractionBits ≤ 149) (hl : l + f.fractionBits ≤ 149) (hkl : k + l + f.fractionBits ≤ 149) (ha : a.natAbs < 2 ^ (f.fractionBits + 1)) (hb : b.natAbs < 2 ^ (f.fractionBits + 1)) (hn : (a * b).natAbs < 2 ^ (f.fractionBits + 1)) : f.mul (wd f k a) (wd f l b) = some (wd f (k + l) (a * b)) := by
  by_cases h : 0 ≤ a
  · exact mul_wd F hf h (by omega) hk hl hkl ha hb hn
  · obtain ⟨r, e, hr, hl'⟩ := mul_is (f := f) F hf hk hl hkl ha hb hn
    rw [e, hr.unique hf hl' (by
      intro e0
      rcases Int.mul_eq_zero.1 e0 with h1 | h1 <;> omega)]

theorem mul_comm_bits (f : Format) (x y : Nat) : f.mul x y = f.mul y x := by
  unfold Format.mul
  congr 1
  cases f.read x <;> cases f.read y <;> simp only [Datum.product, Nat.mul_comm, Int.add_comm, Bool.xor_comm]

/-- A difference with a zero of either sign. -/
theorem sub_zero_is {f : Format} (F : Fit f) (hf : f.binade ≤ f.infRung) {k : Nat} {a : Int} {y : Nat} (hy : Is f y k 0) (hk : k + f.fractionBits ≤ 149) (ha : a.natAbs < 2 ^ (f.fractionBits + 1)) : f.sub (wd f k a) y = some (wd f k a) := by
  obtain ⟨m, i, hr, hs⟩ := wd_read F hf hk ha
  obtain ⟨t, n, j, hr', hs'⟩ := hy
  unfold Format.sub
  rw [hr, hr']
  show (Datum.sum _ (Datum.number (!t) n j)).map f.write = _
  have h := sum_word F hf hs hs'.opp (fun h => by
    have : ¬ a < 0 := by omega
    simp [this]) hk (by omega)
  rw [h]
  congr 2
  omega
theorem zero_add_is {f : Format} (F : Fit f) (hf : f.binade ≤ f.infRung) {k : Nat} {a : Int} {y : Nat} (hy : Is f y k 0) (hk : k + f.fractionBits ≤ 149) (ha : a.natAbs < 2 ^ (f.fractionBits + 1)) : f.add y (wd f k a) = some (wd f k a) := by
  obtain ⟨m, i, hr, hs⟩ := wd_read F hf hk ha
  obtain ⟨t, n, j, hr', hs'⟩ := hy
  unfold Format.add
  rw [hr, hr']
  have h := sum_word F hf hs' hs (fun h => by
    have : ¬ a < 0 := by omega
    simp [this]) hk (by omega)
  rw [h]
  congr 2
  omega

/-- An integer by a power of two, to the word. -/
theorem quo_pow_wd (p : Nat) (hp : p ≤ 20) (y : Nat) {ip : Int} (hy : single.read y = .number false (2 ^ 23) ip) (hip : 23 + ip = p) (n : Int) (h0 : 0 ≤ n) (hn : n < 16777216) : floatBits .quo .f32 (wd single 0 n) y = some (wd single p n) := by
  show single.div _ _ = _
  by_cases hz : n = 0
  · subst hz
    rw [wd_zero, wd_zero]
    have e0 : single.read 0 = .number false 0 (-149) := by decide +kernel
    unfold Format.div
    rw [e0, hy, quotient_number _ _ (by decide)]
    simp only [Nat.zero_shiftLeft, Nat.zero_div, Nat.zero_mod]
    show some (single.nearest false _ _) = _
    rw [show (2 * 0 + (0 != 0).toNat : Nat) = 0 from rfl, nearest_zero]
  · have hl : ∀ s m i, single.read (wd single 0 n) = .number s m i → m.log2 ≤ single.fractionBits := fun s m i h => by
      obtain ⟨r, hr, e1, _⟩ := read_rung single binade_le_single h
      have := (single_bounds hr).1
      rw [← e1] at this
      by_cases hm : m = 0
      · subst hm; decide
      · have := (Nat.log2_lt hm (k := 24)).2 this
        show m.log2 ≤ 23; omega
    obtain ⟨r, e, hr⟩ := Is.quo fit_single (wd_is single fit_single 0 n (by decide) (by show n.natAbs < 16777216; omega)) hy (by omega) (by decide) hl (by
      show 0 + (((23 : Nat) : Int) + ip).toNat + 23 ≤ 149; omega) (by show n.natAbs < 16777216; omega)
    rw [e]
    have e2 : (0 + (((23 : Nat) : Int) + ip).toNat) = p := by omega
    rw [e2] at hr
    rw [hr.unique binade_le_single (Ieee.Format.div_lt single e) hz]
theorem unit_word (n : Int) (h0 : 0 ≤ n) (hn : n < 16777216) : floatBits .quo .f32 (wd single 0 n) 1191182336 = some (wd single 15 n) :=
  quo_pow_wd 15 (by omega) _ (ip := -8) (by decide +kernel) (by omega) n h0 hn

def halfChk (q : Int) : Bool := floatBits .quo .f32 (wd single 1 q) 1073741824 == some (wd single 2 q)
theorem halfChk_all : ∀ n : Fin 9, halfChk ((n.val : Int) - 4) = true := by decide +kernel
theorem half_charge (q : Int) (h0 : -4 ≤ q) (h1 : q ≤ 4) : floatBits .quo .f32 (wd single 1 q) 1073741824 = some (wd single 2 q) := by
  have h := halfChk_all ⟨(q + 4).toNat, by omega⟩
  rw [show (((⟨(q + 4).toNat, by omega⟩ : Fin 9).val : Int) - 4) = q by show ((q + 4).toNat : Int) - 4 = q; omega] at h
  exact of_decide_eq_true (by simpa [halfChk] using h)
def halfMChk (m : Int) : Bool := floatBits .quo .f32 (wd single 2 m) 1073741824 == some (wd single 3 m)
theorem halfMChk_all : ∀ n : Fin 9, halfMChk (n.val : Int) = true := by decide +kernel
theorem half_mass (m : Int) (h0 : 1 ≤ m) (h1 : m ≤ 8) : floatBits .quo .f32 (wd single 2 m) 1073741824 = some (wd single 3 m) := by
  have h := halfMChk_all ⟨m.toNat, by omega⟩
  rw [show (((⟨m.toNat, by omega⟩ : Fin 9).val : Int)) = m by show (m.toNat : Int) = m; omega] at h
  exact of_decide_eq_true (by simpa [halfMChk] using h)

/-- What comes of a mean of two equal numbers, by division. -/
def meanChk (x m : Int) : Bool := floatBits .quo .f64 (wd double 9 (4 * x * m * m)) (wd double 6 (4 * m * m)) == some (wd double 3 x)
set_option maxRecDepth 100000 in
theorem meanChk_all : ∀ (n : Fin 72) (m : Fin 8), meanChk ((n.val : Int) - 8) ((m.val : Int) + 1) = true := by decide +kernel
theorem mean_quo (x m : Int) (h0 : -8 ≤ x) (h1 : x ≤ 63) (m0 : 1 ≤ m) (m1 : m ≤ 8) : floatBits .quo .f64 (wd double 9 (4 * x * m * m)) (wd double 6 (4 * m * m)) = some (wd double 3 x) := by
  have h := meanChk_all ⟨(x + 8).toNat, by omega⟩ ⟨(m - 1).toNat, by omega⟩
  rw [show (((⟨(x + 8).toNat, by omega⟩ : Fin 72).val : Int) - 8) = x by show ((x + 8).toNat : Int) - 8 = x; omega, show (((⟨(m - 1).toNat, by omega⟩ : Fin 8).val : Int) + 1) = m by show ((m - 1).toNat : Int) + 1 = m; omega] at h
  exact of_decide_eq_true (by simpa [meanChk] using h)
end Go.Proofs.Ytnmdgbnophclnaa
namespace Go.Proofs.Ytnmdgbnophclnaa
open Go.RowKit Go.Sort Ieee
set_option linter.unusedSimpArgs false

def nx (s : Int) : Int := (1103515245 * s + 12345) % 2147483648
theorem nx_bounds (s : Int) : 0 ≤ nx s ∧ nx s ≤ 2147483647 := by
  unfold nx
  have h1 := Int.emod_nonneg (1103515245 * s + 12345) (b := 2147483648) (by omega)
  have h2 := Int.emod_lt_of_pos (1103515245 * s + 12345) (b := 2147483648) (by omega)
  omega
def un (s : Int) : Int := s / 65536
theorem un_bounds (s : Int) (h0 : 0 ≤ s) (h1 : s ≤ 2147483647) : 0 ≤ un s ∧ un s ≤ 32767 := by unfold un; omega

set_option maxHeartbeats 1000000 in
theorem isSeed_ok (s : Int) (h0 : 0 ≤ s) (h1 : s ≤ 2147483647) (w : World) : Calls Try.prog 77 #[.int .i64 s] w fun e w' => e = .returned (.bool true) ∧ w' = w := by
  have W := within_any s 0 2147483647 w
  rw [decide_eq_true h0, decide_eq_true h1] at W
  have W := keep W
  go_enter Try.func77, Try.ntmps77
  go_wp2_with fail
  refine W.out.mono ?_
  rintro e w' ⟨rfl, rfl⟩
  go_wp2_with fail
  go_ret
  exact ⟨rfl, rfl⟩

set_option maxHeartbeats 1000000 in
theorem nextSeed_ok (s : Int) (h0 : 0 ≤ s) (h1 : s ≤ 2147483647) (w : World) : Calls Try.prog 113 #[.int .i64 s] w fun e w' => e = .returned (.int .i64 (nx s)) ∧ w' = w := by
  have w1 : IntKind.i64.wrap (1103515245 * s) = 1103515245 * s := IntWalk.i64_in _ ⟨by omega, by omega⟩
  have w2 : IntKind.i64.wrap (1103515245 * s + 12345) = 1103515245 * s + 12345 := IntWalk.i64_in _ ⟨by omega, by omega⟩
  have w3 : Int.tmod (1103515245 * s + 12345) 2147483648 = nx s := by unfold nx; rw [Int.tmod_eq_emod_of_nonneg (by omega)]
  have w4 : IntKind.i64.wrap (nx s) = nx s := IntWalk.i64_in _ ⟨by have := nx_bounds s; omega, by have := nx_bounds s; omega⟩
  go_enter Try.func113, Try.ntmps113
  go_wp2_with fail
  go_ret
  exact ⟨rfl, rfl⟩

set_option maxHeartbeats 1000000 in
theorem unitOf_ok (s : Int) (h0 : 0 ≤ s) (h1 : s ≤ 2147483647) (w : World) : Calls Try.prog 114 #[.int .i64 s] w fun e w' => e = .returned (.float .f32 (wd single 15 (un s))) ∧ w' = w := by
  have hu := un_bounds s h0 h1
  have w3 : Int.tdiv s 65536 = un s := by unfold un; rw [Int.tdiv_eq_ediv_of_nonneg h0]
  have w4 : IntKind.i64.wrap (un s) = un s := IntWalk.i64_in _ ⟨by omega, by omega⟩
  have f1 := frun (unit_word (un s) hu.1 (by omega))
  rw [← ofInt_wd] at f1
  go_enter Try.func114, Try.ntmps114
  go_wp2_with fail
  go_ret
  exact ⟨rfl, rfl⟩

set_option maxHeartbeats 1000000 in
theorem use_ok (s : Int) (h0 : 0 ≤ s) (h1 : s ≤ 2147483647) (g : Nat) (w : World) (hh : Has w g 2 #[.int .i64 s]) : Calls Try.prog 79 #[.pointer (some ⟨g, 0, none⟩)] w fun e w' => e = .returned (.float .f32 (wd single 15 (un (nx s)))) ∧ w' = w.setCell ⟨g, 0, none⟩ (.int .i64 (nx s)) := by
  have N := keep (fun w => nextSeed_ok s h0 h1 w)
  have U := keep (fun w => unitOf_ok (nx s) (nx_bounds s).1 (nx_bounds s).2 w)
  have c0 : w.cell? ⟨g, 0, none⟩ = some (.int .i64 s) := hh.cells 0
  have u0 := hh.free 0
  have lg := hh.in_heap
  have h2 := hh.written 0 (.int .i64 (nx s))
  have c1 : (w.setCell ⟨g, 0, none⟩ (.int .i64 (nx s))).cell? ⟨g, 0, none⟩ = some (.int .i64 (nx s)) := h2.cells 0
  clear hh h2
  go_enter Try.func79, Try.ntmps79
  go_wp2_with fail
  refine (N.out _).mono ?_
  rintro e w' ⟨rfl, rfl⟩
  go_wp2_with fail
  refine (U.out _).mono ?_
  rintro e w' ⟨rfl, rfl⟩
  go_wp2_with fail
  go_ret
  exact ⟨rfl, rfl⟩
end Go.Proofs.Ytnmdgbnophclnaa
namespace Go.Proofs.Ytnmdgbnophclnaa
open Go.RowKit Go.Sort Ieee
set_option linter.unusedSimpArgs false

theorem two_word15 : (1073741824 : Nat) = wd single 15 65536 := by decide +kernel
theorem zero_word0 : (0 : Nat) = wd single 0 0 := (wd_zero _ _).symm
theorem bell_last (S : Int) (h0 : 0 ≤ S) (h1 : S ≤ 131068) : ∃ r, floatBits .sub .f32 (wd single 15 S) 1073741824 = some (wd single 15 (S - 65536)) ∧ floatBits .mul .f32 0 (wd single 15 (S - 65536)) = some r ∧ Is single r 3 0 ∧ r < 2 ^ single.width := by
  obtain ⟨r, e, hr, hl⟩ := mul_is (f := single) fit_single binade_le_single (k := 0) (l := 15) (a := 0) (b := S - 65536) (by decide) (by decide) (by decide) (by decide) (by show (S - 65536).natAbs < 16777216; omega) (by rw [Int.zero_mul]; decide)
  refine ⟨r, ?_, ?_, ?_, hl⟩
  · rw [two_word15]
    exact fsub (by omega) (by omega) (by omega) (by omega)
  · have : floatBits .mul .f32 (wd single 0 0) (wd single 15 (S - 65536)) = some r := e
    rwa [wd_zero] at this
  · rw [Int.zero_mul] at hr
    obtain ⟨s, m, i, h1, h2⟩ := hr
    have hm := h2.mag_zero.2 rfl
    subst hm
    exact ⟨s, 0, i, h1, Stands.zero⟩

def SeedAt (w : World) (g : Nat) : Prop := ∃ s : Int, 0 ≤ s ∧ s ≤ 2147483647 ∧ Has w g 2 #[.int .i64 s]

set_option maxHeartbeats 2000000 in
theorem bell_ok (g : Nat) (w : World) (hh : SeedAt w g) : Calls Try.prog 82 #[.pointer (some ⟨g, 0, none⟩), .float .f32 0] w fun e w' => ∃ z, e = .returned (.float .f32 z) ∧ Is single z 3 0 ∧ z < 2 ^ single.width ∧ SeedAt w' g ∧ w.grownBy w' (some g) := by
  obtain ⟨s, h0, h1, hh⟩ := hh
  have U := keep (fun s h0 h1 w hh => use_ok s h0 h1 g w hh)
  have H0 := keep (hh.written 0 (.int .i64 (nx s)))
  have G0 := keep (gb_row w g 0 (.int .i64 (nx s)))
  have n0 := nx_bounds s
  have u0 := un_bounds (nx s) n0.1 n0.2
  go_enter Try.func82, Try.ntmps82
  go_wp2_with fail
  refine (U.out s h0 h1 _ hh).mono ?_
  rintro e w' ⟨rfl, rfl⟩
  go_wp2_with fail
  go_loopw [8, 5] (fun t n wr => ∃ (k : Nat) (S s' : Int), k ≤ 3 ∧ t = .int .i64 k ∧ n = .float .f32 (wd single 15 S) ∧ Kept (0 ≤ S ∧ S ≤ 32767 * ((k : Int) + 1)) ∧ Kept (0 ≤ s' ∧ s' ≤ 2147483647) ∧ Kept (Has wr g 2 #[.int .i64 s']) ∧ Kept (w.grownBy wr (some g))) (fun t _ _ => 3 - (intOf t).toNat)
  case atStart => exact ⟨0, un (nx s), nx s, by omega, rfl, rfl, keep (by omega), keep n0, H0, G0⟩
  case round =>
    clear hh h0 h1 H0 G0 n0 u0
    obtain ⟨k, S, s', hk, rfl, rfl, hS, hs, hh, hg⟩ := hrel
    have s0 := hS.out
    have b0 := hs.out
    by_cases hlt : k < 3
    · have n0 := nx_bounds s'
      have u0 := un_bounds (nx s') n0.1 n0.2
      have FA := keep (frun (fadd (k := 15) (a := S) (b := un (nx s')) (by omega) (by omega) (by omega) (by omega)))
      have H2 := keep (hh.out.written 0 (.int .i64 (nx s')))
      have G2 := keep (gb_trans hg.out (gb_row wr g 0 (.int .i64 (nx s'))))
      go_wp2_with fail
      refine (U.out s' b0.1 b0.2 _ hh.out).mono ?_
      rintro e w' ⟨rfl, rfl⟩
      have fa := FA.out
      go_wp2_with fail
      go_roundw
      case rel => exact ⟨k + 1, S + un (nx s'), nx s', by omega, by go_num, rfl, keep (by omega), keep n0, H2, G2⟩
      case measure => simp [intOf]; omega
    · obtain rfl : k = 3 := by omega
      obtain ⟨r, e1, e2, hr, hl⟩ := bell_last S (by omega) (by omega)
      have f1 := frun e1
      have f2 := frun e2
      clear e1 e2
      go_wp2_with fail
      go_ret
      exact ⟨r, rfl, hr, hl, ⟨s', b0.1, b0.2, hh.out⟩, hg.out⟩
end Go.Proofs.Ytnmdgbnophclnaa
namespace Go.Proofs.Ytnmdgbnophclnaa
open Go.RowKit Go.Sort Ieee
set_option linter.unusedSimpArgs false

theorem set_same {cur : Array Value} {j : Nat} {x : Value} (h : cur[j]? = some x) : cur.setIfInBounds j x = cur := by
  apply Array.ext_getElem?
  intro k
  by_cases hk : j = k
  · subst hk
    obtain ⟨hl, _⟩ := Array.getElem?_eq_some_iff.1 h
    rw [Array.getElem?_setIfInBounds_self_of_lt hl, h]
  · rw [Array.getElem?_setIfInBounds_ne hk]

theorem speed_still (u : Int) (h0 : -8 ≤ u) (h1 : u ≤ 8) {r : Nat} (hr : Is single r 3 0) (hl : r < 2 ^ single.width) : floatBits .add .f32 (wd single 3 u) r = some (wd single 3 u) := by
  have := add_is (f := single) fit_single binade_le_single (a := u) hr hl (by decide) (by show u.natAbs < 16777216; omega) (by decide) (by show (u + 0).natAbs < 16777216; omega)
  rw [Int.add_zero] at this
  exact this

set_option maxHeartbeats 4000000 in
set_option maxRecDepth 20000 in
theorem SpreadSpeeds_ok (s : Int) (h0 : 0 ≤ s) (h1 : s ≤ 2147483647) (B : Nat) (v : Value) (gs : List GP) (w : World) (h : w.ownsRow B 52 4 v gs.length (psCells (gs.map GP.pd))) (hok : ∀ p ∈ gs, p.ok) (hN : gs.length ≤ 6) :
    Calls Try.prog 34 #[v, .int .i64 s, .float .f32 0] w fun e w' => ∃ (A : Option Addr) (c : Nat) (t : Int), 0 ≤ t ∧ e = .returned (.tuple #[.slice A gs.length c, .int .i64 t, .bool true]) ∧ w'.ownsRow w.heap.size 52 4 (.slice A gs.length c) gs.length (psCells (gs.map GP.pd)) ∧ Below w.heap.size w w' := by
  have b1 : Below w.heap.size w (w.alloc (.cells #[.int .i64 s] 2)) := (Below.refl w.heap.size w).alloc (Nat.le_refl _) _
  have AP := keep (fun v w h => Areg_ok B v gs w h hok hN)
  have AQ := keep (fun B v w h => Areg_ok B v gs w h hok hN)
  have IS := keep (fun w => isSeed_ok s h0 h1 w)
  have C := IsFinite32 0
  rw [show fin .f32 0 = true by decide +kernel] at C
  have C := keep C
  have CL := keep (fun w (h : w.ownsRow B 52 4 v gs.length (psCells (gs.map GP.pd))) => Clone_ok B v (gs.map GP.pd) w (by rw [List.length_map]; exact h) (by rw [List.length_map]; omega))
  simp only [List.length_map] at CL
  have BE := keep (fun w h => bell_ok w.heap.size w h)
  have BE2 : Kept (∀ g w, SeedAt w g → _) := keep (fun g w h => bell_ok g w h)
  have HH := keep (owns_below h b1)
  have S0 := keep (show Has (w.alloc (.cells #[.int .i64 s] 2)) w.heap.size 2 #[.int .i64 s] from Has.made w 2 #[.int .i64 s])
  have HO := keep hok
  have B1 := keep b1
  have c0 := S0.out.cells 0
  obtain ⟨A, c, rfl⟩ := own_slice h
  clear h hok b1 BE
  go_enter Try.func34, Try.ntmps34
  go_wp2_with fail
  refine (AP.out _ _ HH.out).mono ?_
  rintro e w1 ⟨rfl, hb⟩
  have S1 := keep (S0.out.after hb)
  have B2 := keep (B1.out.trans (hb.mono B1.out.size))
  have O2 := keep (owns_below HH.out hb)
  have c1 := S1.out.cells 0
  clear hb AP HH S0 B1 c0
  go_wp2_with fail
  refine (IS.out _).mono ?_
  rintro e w2 ⟨rfl, rfl⟩
  go_wp2_with fail
  refine (C.out _).mono ?_
  rintro e w3 ⟨rfl, m, rfl⟩
  have S3 := keep (S1.out.draws m)
  have B3 := keep (Below.drewN_of B2.out m)
  have O3 := keep (owns_below O2.out (Below.drewN w2.heap.size w2 m))
  clear IS C B2 O2 S1 c1
  go_wp2_with fail
  refine (CL.out _ O3.out).mono ?_
  rintro e w4 ⟨D, d, rfl, hown, hb⟩
  have OW := keep (own_base hown B3.out.size)
  have S4 := keep (S3.out.after hb)
  have gx := S3.out.in_heap
  have B4 := keep (B3.out.trans (hb.mono B3.out.size))
  rcases hown.2 with ⟨he, hn⟩ | ⟨g, cap, cur, he, hB, hg, hnc, hcm, hcs, htake⟩
  · obtain rfl : gs = [] := List.eq_nil_of_length_eq_zero hn
    injection he with he1 he2 he3
    subst he1
    subst he3
    clear hown hb O3 B3 CL S3
    go_wp2_with fail
    refine wp_loop_rounds 1 ?_
    rw [rounds_succ]
    go_wp2_with fail
    refine (AQ.out w.heap.size _ _ (World.ownsRow_nil _ _ _ _)).mono ?_
    rintro e w6 ⟨rfl, hb6⟩
    have c6 := (S4.out.after hb6).cells 0
    have B6 := keep (B4.out.trans (hb6.mono B4.out.size))
    clear hb6
    go_wp2_with fail
    go_quiet (fail)
    go_wp2_with fail
    go_ret3
    exact ⟨none, 0, s, h0, rfl, World.ownsRow_nil _ _ _ _, Below.drewN_of B6.out _⟩
  · injection he with he1 he2 he3
    subst he1
    subst he3
    have hgs : w.heap.size < g := by omega
    clear hown hb O3 B3 CL S3 hB
    go_wp2_with fail
    go_loopw [30] (fun t wr => ∃ (i : Nat), i ≤ gs.length ∧ t = .int .i64 i ∧ Kept (Has wr g 52 cur) ∧ Kept (SeedAt wr w.heap.size) ∧ Kept (Below w.heap.size w wr)) (fun t _ => gs.length - (intOf t).toNat)
    case atStart => exact ⟨0, Nat.zero_le _, rfl, keep hg, keep ⟨s, h0, h1, S4.out⟩, B4⟩
    case round =>
      clear B4 OW hg S4 h0 h1
      obtain ⟨i, hi, rfl, hh, hsd, hb⟩ := hrel
      by_cases hlt : i < gs.length
      · have hi' : i < (gs.map GP.pd).length := by rw [List.length_map]; exact hlt
        have hcell : cur[i * 4 + 1]? = some (.complex .f32 (wd single 3 gs[i].u) (wd single 3 gs[i].v)) := by
          have e1 := psCells_at _ i hi' 1 (by omega)
          rw [← htake, List.getElem?_take_of_lt (by omega), List.getElem_map] at e1
          exact (Array.getElem?_toList).symm.trans e1
        have hs := set_same hcell
        obtain ⟨_, _, ⟨u0, u1⟩, ⟨v0, v1⟩, _, _⟩ := HO.out _ (List.getElem_mem hlt)
        generalize gs[i] = p at *
        have SAME := keep hs
        have CELL := keep hcell
        clear hs hcell
        go_wp2_with fail
        refine (BE2.out _ _ hsd.out).mono ?_
        rintro e w5 ⟨z1, rfl, hz1, hl1, hs1, hg1⟩
        have H5 := keep (hh.out.byG hg1 (by intro e; injection e with e; omega))
        have S5 := keep hs1
        have B5 := keep (hb.out.grown hg1 hb.out.size (fun k e => by injection e with e; omega))
        have E1 := keep (speed_still p.u u0 u1 hz1 hl1)
        clear hz1 hl1 hs1 hg1 hh hsd hb
        go_wp2_with fail
        refine (BE2.out _ _ S5.out).mono ?_
        rintro e w6 ⟨z2, rfl, hz1, hl1, hs1, hg1⟩
        have H6 := keep (H5.out.byG hg1 (by intro e; injection e with e; omega))
        have S6 := keep hs1
        have B6 := keep (B5.out.grown hg1 B5.out.size (fun k e => by injection e with e; omega))
        have PL := keep (fun w => plus_any _ _ _ _ _ _ E1.out (speed_still p.v v0 v1 hz1 hl1) w)
        have c0 := (H6.out.cells (i * 4 + 1)).trans CELL.out
        have u1' := H6.out.free (i * 4 + 1)
        have lg := H6.out.in_heap
        clear hz1 hl1 hs1 hg1 H5 S5 B5 E1 u0 u1 v0 v1
        go_wp2_with fail
        refine (PL.out _).mono ?_
        rintro e w7 ⟨rfl, rfl⟩
        have H7 := H6.out.written (i * 4 + 1) (.complex .f32 (wd single 3 p.u) (wd single 3 p.v))
        rw [SAME.out] at H7
        have H7 := keep H7
        have hwg : w.heap.size ≤ g := by omega
        have B7 := keep (B6.out.setCell (p := ⟨g, i * 4 + 1, none⟩) hwg (.complex .f32 (wd single 3 p.u) (wd single 3 p.v)))
        have S7 : Kept (SeedAt (w7.setCell ⟨g, i * 4 + 1, none⟩ (.complex .f32 (wd single 3 p.u) (wd single 3 p.v))) w.heap.size) := keep (by
          obtain ⟨t, t0, t1, ht⟩ := S6.out
          exact ⟨t, t0, t1, ht.byG (gb_row _ g _ _) (by intro e; injection e with e; omega)⟩)
        clear H6 S6 B6
        go_wp2_with fail
        go_roundw
        case rel => exact ⟨i + 1, by omega, by go_num, H7, S7, B7⟩
        case measure => simp [intOf]; omega
      · obtain rfl : i = gs.length := by omega
        have ow : wr.ownsRow w.heap.size 52 4 (.slice (some ⟨g, 0, none⟩) gs.length d) gs.length (psCells (gs.map GP.pd)) := ⟨by rw [psCells_length, List.length_map], .inr ⟨g, d, cur, rfl, by omega, hh.out, hnc, hcm, hcs, htake⟩⟩
        have OW2 := keep ow
        clear ow
        go_wp2_with fail
        refine (AQ.out _ _ _ OW2.out).mono ?_
        rintro e w6 ⟨rfl, hb6⟩
        obtain ⟨t, t0, t1, ht⟩ := hsd.out
        have c6 := (ht.after hb6).cells 0
        have B6 := keep (hb.out.trans (hb6.mono hb.out.size))
        have OW6 := keep (owns_below OW2.out hb6)
        clear hb6 ht
        go_wp2_with fail
        go_quiet (fail)
        go_wp2_with fail
        go_ret3
        exact ⟨_, _, t, t0, rfl, owns_below OW6.out (Below.drewN _ _ _), Below.drewN_of B6.out _⟩
end Go.Proofs.Ytnmdgbnophclnaa
