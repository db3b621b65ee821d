/- Lists of texts: what the law's helpers do with them; a journal's line. The table of powers of ten is a premise where the library reads it. -/
import Derived.Test.YtafaabhnkjjkcaaDoorJb
import Derived.RegionTactic
import Derived.Deep.QuietTactic
import Derived.BigQuiet
namespace Go.Proofs.YtafaabhnkjjkcaaDoor
open Go.RowKit Go.Sort

/-- A slice at A reads as these texts, and lies below block B. -/
def Rd (w : World) (B : Nat) (A : Option Addr) (ss : List ByteArray) : Prop :=
  0 < ss.length → ∃ ad, A = some ad ∧ ad.block < B ∧ ∀ j (h : j < ss.length), w.cell? (ad.add j) = some (.string ss[j])

theorem block_of_add (a : Addr) (n : Nat) : (a.add n).block = a.block := by unfold Addr.add; split <;> rfl

theorem Rd.below {w w' : World} {B : Nat} {A : Option Addr} {ss : List ByteArray} (h : Rd w B A ss) (hb : Below B w w') : Rd w' B A ss := by
  intro h0
  obtain ⟨ad, e, hl, hc⟩ := h h0
  exact ⟨ad, e, hl, fun j hj => by rw [hb.cell (p := ad.add j) (by rw [block_of_add]; exact hl)]; exact hc j hj⟩
theorem Rd.more {w : World} {B B' : Nat} {A : Option Addr} {ss : List ByteArray} (h : Rd w B A ss) (hB : B ≤ B') : Rd w B' A ss := by
  intro h0
  obtain ⟨ad, e, hl, hc⟩ := h h0
  exact ⟨ad, e, by omega, hc⟩

/-- Texts as cells. -/
def sv (ss : List ByteArray) : List Value := ss.map .string
theorem Rd.of_own {w : World} {B e c n : Nat} {A : Option Addr} {ss : List ByteArray} (h : w.ownsRow B e 1 (.slice A n c) n (sv ss)) : Rd w w.heap.size A ss := by
  intro h0
  have hn : ss.length = n := by have := h.1; simpa [sv] using this
  obtain ⟨g, cap, hv, _, hlt⟩ := h.form (by omega)
  have hA : A = some ⟨g, 0, none⟩ := by injection hv
  subst hA
  exact ⟨_, rfl, hlt, fun j hj => h.cells (g := g) rfl j _ (by simp [sv, hj])⟩

/-- How many bytes some texts have together. -/
def tot (ss : List ByteArray) : Nat := (ss.map ByteArray.size).sum
theorem tot_take (ss : List ByteArray) (k : Nat) (h : k < ss.length) : tot (ss.take (k + 1)) = tot (ss.take k) + ss[k].size := by
  unfold tot
  rw [List.take_succ_eq_append_getElem h]
  simp only [List.map_append, List.sum_append, List.map_cons, List.map_nil, List.sum_cons, List.sum_nil, Nat.add_zero]
theorem tot_le (ss : List ByteArray) (k : Nat) : tot (ss.take k) ≤ tot ss := by
  unfold tot
  conv => rhs; rw [← List.take_append_drop k ss]
  rw [List.map_append, List.sum_append]
  omega
theorem size_le_tot (ss : List ByteArray) (s : ByteArray) (h : s ∈ ss) : s.size ≤ tot ss := by
  induction ss with
  | nil => cases h
  | cons x r ih =>
    have e : tot (x :: r) = x.size + tot r := by simp [tot]
    rcases List.mem_cons.1 h with rfl | h
    · omega
    · have := ih h; omega

/-- Not more than a million bytes, counted with one more for each text. -/
def small (ss : List ByteArray) : Prop := ss.length + tot ss ≤ 1048576

/-- What a count says that hands back what is left. -/
def Left1 (ss : List ByteArray) (w : World) (e : Ending) (w' : World) : Prop := ∃ r : Int, e = .returned (.int .i64 r) ∧ (0 ≤ r → small ss) ∧ w = w'

set_option maxHeartbeats 1000000 in
theorem szStringS_any (A : Option Addr) (c : Nat) (ss : List ByteArray) (w : World) (B : Nat) (hr : Rd w B A ss) (hm : ss.length ≤ maxLen) (hs : ∀ s ∈ ss, s.size ≤ maxLen) :
    Calls Tryd.prog 7 #[.slice A ss.length c, .int .i64 1048576] w (Left1 ss w) := by
  unfold maxLen at hm
  have HS := keep hs
  have HR := keep hr
  clear hs hr
  by_cases h0 : 1048576 < ss.length
  · have hd : decide (1048576 - (ss.length : Int) < 0) = true := by simp; omega
    go_enter Tryd.func7, Tryd.ntmps7
    go_wp2
    go_ret
    exact ⟨-1, rfl, fun h => by omega, rfl⟩
  · have hd : decide (1048576 - (ss.length : Int) < 0) = false := by simp; omega
    go_enter Tryd.func7, Tryd.ntmps7
    go_wp2
    clear hd
    go_loop [1, 5] (fun l i => ∃ k lf : Nat, k ≤ ss.length ∧ lf ≤ 1048576 ∧ i = .int .i64 k ∧ l = .int .i64 lf ∧ Kept (lf + ss.length + tot (ss.take k) = 1048576)) (fun _ i => ss.length - (intOf i).toNat)
    case atStart => exact ⟨0, 1048576 - ss.length, Nat.zero_le _, by omega, rfl, by simp; omega, keep (by simp [tot]; omega)⟩
    case round =>
      obtain ⟨k, lf, hk, hlf, rfl, rfl, hq⟩ := hrel
      by_cases hlt : k < ss.length
      · obtain ⟨ad, rfl, hb, hc⟩ := HR.out (by omega)
        have hck := hc k hlt
        have hsz := HS.out ss[k] (List.getElem_mem hlt)
        have hqt := keep (tot_take ss k hlt)
        unfold maxLen at hsz
        clear hc
        by_cases hover : lf < ss[k].size
        · have hd : decide ((lf : Int) - (ss[k].size : Int) < 0) = true := by simp; omega
          go_wp2
          go_ret
          exact ⟨-1, rfl, fun h => by omega, rfl⟩
        · have hd : decide ((lf : Int) - (ss[k].size : Int) < 0) = false := by simp; omega
          go_wp2
          go_round
          case rel => exact ⟨k + 1, lf - ss[k].size, by omega, by omega, by go_num, by simp; omega, keep (by have := hq.out; have := hqt.out; omega)⟩
          case measure => simp [intOf]; omega
      · have hk' : k = ss.length := by omega
        have hfin : small ss := by
          have h := hq.out
          rw [hk', List.take_length] at h
          unfold small; omega
        have HF := keep hfin
        clear hk' hfin
        go_wp2
        go_ret
        exact ⟨lf, rfl, fun _ => HF.out, rfl⟩

theorem infoString : (Tryd.prog.info? 9).map (fun i => (i.zero, i.size, i.bytes)) = some (some (.string ⟨#[]⟩), 1, 16) := by kernel_rfl

/-- What a copy of some texts is. -/
def Copied (ss : List ByteArray) (w : World) (e : Ending) (w' : World) : Prop :=
  ∃ g c, e = .returned (.slice (some ⟨g, 0, none⟩) ss.length c) ∧ w'.ownsRow w.heap.size 9 1 (.slice (some ⟨g, 0, none⟩) ss.length c) ss.length (sv ss) ∧ Below w.heap.size w w'

theorem set_next (ss : List ByteArray) (xs : List Value) (k : Nat) (hk : k < ss.length) (h : xs.length = ss.length) (ht : xs.take k = sv (ss.take k)) : (xs.set k (.string ss[k])).take (k + 1) = sv (ss.take (k + 1)) := by
  rw [List.take_succ_eq_append_getElem (by simp; omega)]
  rw [List.take_set_of_le (Nat.le_refl k), ht]
  rw [List.take_succ_eq_append_getElem hk]
  simp only [sv, List.map_append, List.map_cons, List.map_nil, List.getElem_set_self]

set_option maxHeartbeats 2000000 in
set_option maxRecDepth 100000 in
theorem toStringS_any (A : Option Addr) (c : Nat) (ss : List ByteArray) (w : World) (hr : Rd w w.heap.size A ss) (hm : small ss) :
    Calls Tryd.prog 9 #[.slice A ss.length c] w (Copied ss w) := by
  have hlen : ss.length ≤ 1048576 := by unfold small at hm; omega
  obtain ⟨i0, hi, hz0, hz1, hz2⟩ := info_parts infoString
  have HI := keep hi
  have HZ0 := keep hz0
  have HZ1 := keep hz1
  have HZ2 := keep hz2
  have HR := keep hr
  clear hi hz0 hz1 hz2 hr hm
  go_enter Tryd.func9, Tryd.ntmps9
  go_wp2_with (refine wpList_make_full _ (o := ⟨some 7, _, _, _, _, _⟩) rfl (.tmp 6) (.tmp 6) 22 rfl w.heap.size 9 i0 _ 1 Tryd.underlying22 HI.out HZ0.out HZ1.out .i64 .i64 ss.length ss.length ss.length rfl rfl rfl rfl ?c1 ?c2 ?c3 ?_)
  case c1 => rw [HZ2.out]; omega
  case c2 => unfold maxLen; omega
  case c3 => exact Nat.le_refl _
  intro w1 hown hgrow
  have hb1 : Below w.heap.size w w1 := (Below.refl _ w).grown hgrow (Nat.le_refl _) (fun k e => by cases e)
  have hg1 : w.heap.size < w1.heap.size := (hown.lt _ rfl).2
  have HO := keep hown
  clear hown hgrow
  go_wp2_with fail
  go_loopw [4] (fun i wr => ∃ (k : Nat) (xs : List Value), k ≤ ss.length ∧ i = .int .i64 k ∧ Kept (wr.ownsRow w.heap.size 9 1 (.slice (some ⟨w.heap.size, 0, none⟩) ss.length ss.length) ss.length xs) ∧ Kept (xs.take k = sv (ss.take k)) ∧ Kept (w.heap.size < wr.heap.size) ∧ Below w.heap.size w wr) (fun i _ => ss.length - (intOf i).toNat)
  case atStart => exact ⟨0, _, Nat.zero_le _, rfl, HO, keep (by simp [sv]), keep hg1, hb1⟩
  case round =>
    obtain ⟨k, xs, hk, rfl, ho, ht, hgs, hb⟩ := hrel
    by_cases hlt : k < ss.length
    · obtain ⟨ad, rfl, hbl, hc⟩ := HR.out (by omega)
      have hck : wr.cell? (ad.add k) = some (.string ss[k]) := by rw [hb.cell (p := ad.add k) (by rw [block_of_add]; exact hbl)]; exact hc k hlt
      have hxl : xs.length = ss.length := by have := ho.out.1; omega
      have hck2 : wr.cell? ⟨w.heap.size, k, none⟩ = xs[k]? := ho.out.cellAt k (by omega)
      rw [List.getElem?_eq_getElem (by omega)] at hck2
      have hfr := ho.out.frozenAt k
      have HX := keep hxl
      generalize xs[k] = xk at hck2
      clear hc hxl
      go_wp2_with fail
      go_roundw
      case rel =>
        obtain ⟨o1, g1⟩ := ho.out.stored k (.string ss[k])
        exact ⟨k + 1, _, by omega, by go_num, keep o1, keep (set_next ss xs k hlt HX.out ht.out), keep (by have := hgs.out; simpa using this), hb.setCell (Nat.le_refl _) _⟩
      case measure => simp [intOf]; omega
    · have hk' : k = ss.length := by omega
      have hx : xs = sv ss := by
        have h := ht.out
        have hxl := ho.out.1
        rw [hk', List.take_length, List.take_of_length_le (by omega)] at h
        exact h
      subst hx
      clear hk'
      go_wp2_with fail
      go_ret
      exact ⟨_, _, rfl, ho.out, hb⟩

set_option maxHeartbeats 2000000 in
theorem eqStringS_any (A A2 : Option Addr) (c c2 : Nat) (ss : List ByteArray) (w : World) (B B2 : Nat) (hr : Rd w B A ss) (hr2 : Rd w B2 A2 ss) (hm : small ss) :
    Calls Tryd.prog 11 #[.slice A ss.length c, .slice A2 ss.length c2] w fun e w' => e = .returned (.bool true) ∧ ∃ n, w' = w.drewN n := by
  have hlen : ss.length ≤ 1048576 := by unfold small at hm; omega
  have hd : ((ss.length : Int) != (ss.length : Int)) = false := by simp
  have HR := keep hr
  have HR2 := keep hr2
  clear hr hr2 hm
  go_enter Tryd.func11, Tryd.ntmps11
  go_wp2
  go_loopw [5] (fun i wr => ∃ k : Nat, k ≤ ss.length ∧ i = .int .i64 k ∧ Kept (∃ n, wr = w.drewN n)) (fun i _ => ss.length - (intOf i).toNat)
  case atStart => exact ⟨0, Nat.zero_le _, rfl, keep ⟨0, rfl⟩⟩
  case round =>
    obtain ⟨k, hk, rfl, hn⟩ := hrel
    by_cases hlt : k < ss.length
    · obtain ⟨ad, rfl, hb, hc⟩ := HR.out (by omega)
      obtain ⟨ad2, rfl, hb2, hc2⟩ := HR2.out (by omega)
      have hck : wr.cell? (ad.add k) = some (.string ss[k]) := by obtain ⟨n, rfl⟩ := hn.out; exact hc k hlt
      have hck2 : wr.cell? (ad2.add k) = some (.string ss[k]) := by obtain ⟨n, rfl⟩ := hn.out; exact hc2 k hlt
      generalize ss[k] = sk at *
      have hkk : (0 : Int) ≤ (k : Int) := by omega
      have hkl : (k : Int) < (ss.length : Int) := by omega
      clear hc hc2
      go_wp2
      go_quiet (fail)
      go_wp2
      go_roundw
      case rel => exact ⟨k + 1, by omega, by go_num, keep (by obtain ⟨n, rfl⟩ := hn.out; exact ⟨n + _, World.drewN_drewN ..⟩)⟩
      case measure => simp [intOf]; omega
    · go_wp2
      go_ret
      exact ⟨rfl, hn.out⟩
end Go.Proofs.YtafaabhnkjjkcaaDoor
