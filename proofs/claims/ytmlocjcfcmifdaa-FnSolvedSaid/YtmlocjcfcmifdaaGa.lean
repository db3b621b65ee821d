/- Contracts of the drawing of choices from bytes: next, pick, one. What is drawn is below its bound; nothing else is said of it. -/
import Derived.Test.YtmlocjcfcmifdaaLeaf
import Derived.Test.YtmlocjcfcmifdaaWords
import Derived.Deep.Draws
import Derived.Lib.EndianBits
namespace Go.Proofs.Ytmlocjcfcmifdaa
open Go.RowKit

/-- The bytes that a slice reads. -/
def Bytes (w : World) (a : Option Addr) (n : Nat) : Prop := ∀ j, j < n → ∃ b o : Nat, a = some ⟨b, o, none⟩ ∧ b < w.heap.size ∧ ∃ v : Nat, v < 256 ∧ w.cell? ⟨b, o + j, none⟩ = some (.int .u8 v)

theorem and255u (n : Nat) (h : n < 2 ^ 64) : bits .and .u64 (n : Int) 255 = (n : Int) % 256 := by
  have h1 := (bits_nat .u64 64 (by decide) (fun n h0 h1 => by rw [IntKind.wrap_u64]; omega) n 255 h (by decide)).1
  rw [show ((255 : Nat) : Int) = 255 from rfl] at h1
  rw [h1, show (255 : Nat) = 2 ^ 8 - 1 from rfl, Nat.and_two_pow_sub_one_eq_mod]
  omega

/-- The source in a block: k bytes have been asked for. -/
def Src (w : World) (g : Nat) (a : Option Addr) (n c k : Nat) (q : Int) : Prop := Has w g 102 #[.slice a n c, .int .i64 k, .int .u64 q] ∧ 0 ≤ q ∧ q < 18446744073709551616

theorem Src.put {w : World} {g : Nat} {a : Option Addr} {n c k : Nat} {q : Int} (hs : Has w g 102 #[.slice a n c, .int .i64 k, .int .u64 q]) (z q' : Int) (hz : z = ((k + 1 : Nat) : Int)) (h0 : 0 ≤ q') (h1 : q' < 18446744073709551616) (m : Nat) :
    (∃ q2, Src (((w.setCell ⟨g, 1, none⟩ (.int .i64 z)).setCell ⟨g, 2, none⟩ (.int .u64 q')).drewN m) g a n c (k + 1) q2) ∧ w.grownBy (((w.setCell ⟨g, 1, none⟩ (.int .i64 z)).setCell ⟨g, 2, none⟩ (.int .u64 q')).drewN m) (some g) := by
  subst hz
  refine ⟨⟨q', ((hs.written 1 _).written 2 _).draws m, h0, h1⟩, rfl, rfl, rfl, by simp [World.setCell, World.drewN], fun i hi hne => ?_⟩
  have hig : i ≠ g := fun e => hne (by rw [e])
  show ((w.setCell ⟨g, 1, none⟩ _).setCell ⟨g, 2, none⟩ _).heap[i]? = _
  rw [Below.heap_setCell _ _ _ _ (by exact hig), Below.heap_setCell _ _ _ _ (by exact hig)]
theorem Src.put2 {w : World} {g : Nat} {a : Option Addr} {n c k : Nat} {q : Int} (hs : Has w g 102 #[.slice a n c, .int .i64 k, .int .u64 q]) (z q' : Int) (hz : z = ((k + 1 : Nat) : Int)) (h0 : 0 ≤ q') (h1 : q' < 18446744073709551616) (m m2 : Nat) :
    (∃ q2, Src ((((w.setCell ⟨g, 1, none⟩ (.int .i64 z)).setCell ⟨g, 2, none⟩ (.int .u64 q')).drewN m).drewN m2) g a n c (k + 1) q2) ∧ w.grownBy ((((w.setCell ⟨g, 1, none⟩ (.int .i64 z)).setCell ⟨g, 2, none⟩ (.int .u64 q')).drewN m).drewN m2) (some g) := by
  rw [World.drewN_drewN]
  exact Src.put hs z q' hz h0 h1 _
theorem u64_in (x : Int) : 0 ≤ IntKind.u64.wrap x ∧ IntKind.u64.wrap x < 18446744073709551616 := by rw [IntKind.wrap_u64]; omega
theorem seed_byte (x : Int) : ∃ v : Nat, v < 256 ∧ wrap64 (bits .and .u64 (IntKind.u64.wrap x / 1099511627776) 255) = (v : Int) := by
  obtain ⟨h0, h1⟩ := u64_in x
  generalize IntKind.u64.wrap x = y at *
  obtain ⟨m, rfl⟩ := Int.eq_ofNat_of_zero_le h0
  have e := and255u (m / 1099511627776) (by omega)
  have e2 : ((m / 1099511627776 : Nat) : Int) = (m : Int) / 1099511627776 := by omega
  rw [e2] at e
  rw [e]
  exact ⟨m / 1099511627776 % 256, by omega, by unfold wrap64; omega⟩

set_option maxHeartbeats 1000000 in
set_option maxRecDepth 20000 in
theorem next_any (g : Nat) (a : Option Addr) (n c k : Nat) (q : Int) (w : World) (hs : Src w g a n c k q) (hb : Bytes w a n) (hk : k ≤ 1000000) (hne : ∀ b o, a = some ⟨b, o, none⟩ → 0 < n → b ≠ g) :
    Calls Try.prog 78 #[.pointer (some ⟨g, 0, none⟩)] w fun e w' => ∃ v : Nat, v < 256 ∧ e = .returned (.int .i64 v) ∧ (∃ q', Src w' g a n c (k + 1) q') ∧ w.grownBy w' (some g) := by
  obtain ⟨hs, hq0, hq1⟩ := hs
  have HP := keep (fun z q' hz h0 h1 m m2 => Src.put2 hs z q' hz h0 h1 m m2)
  have HQ := keep (fun z q' hz h0 h1 m => Src.put hs z q' hz h0 h1 m)
  have c1 := hs.cells
  have f1 := hs.free
  by_cases hlt : k < n
  case pos =>
    obtain ⟨b, o, rfl, hbl, v, hv, hcell⟩ := hb k hlt
    have hd1 : decide (k < n) = true := by simp; omega
    have hbg := hne b o rfl (by omega)
    clear hne hb
    have hk0 : (0 : Int) ≤ (k : Int) := by omega
    have hkn : (k : Int) < (n : Int) := by omega
    go_enter Try.func78, Try.ntmps78
    go_wp2_with fail
    go_quiet (fail)
    go_wp2_with fail
    go_quiet (fail)
    go_wp2_with fail
    go_quiet (fail)
    go_wp2_with fail
    go_ret
    exact ⟨v, hv, rfl, HP.out _ _ (by omega) (u64_in _).1 (u64_in _).2 _ _⟩
  case neg =>
    have hd1 : decide (k < n) = false := by simp; omega
    clear hlt hb hne
    go_enter Try.func78, Try.ntmps78
    go_wp2_with fail
    go_quiet (fail)
    go_wp2_with fail
    go_quiet (fail)
    go_wp2_with fail
    · go_ret
      exact ⟨0, by omega, rfl, HP.out _ _ (by omega) (u64_in _).1 (u64_in _).2 _ _⟩
    · obtain ⟨v, hv, hw⟩ := seed_byte (IntKind.u64.wrap (IntKind.u64.wrap (q * 6364136223846793005)) + 1442695040888963407)
      rw [hw]
      go_ret
      exact ⟨v, hv, rfl, HQ.out _ _ (by omega) (u64_in _).1 (u64_in _).2 _⟩

/-- A source from which at most K bytes have been asked. -/
structure Drawn (w : World) (g : Nat) (a : Option Addr) (n c K : Nat) : Prop where
  src : ∃ (k : Nat) (q : Int), k ≤ K ∧ Src w g a n c k q
  bytes : Bytes w a n
  low : ∀ b o, a = some ⟨b, o, none⟩ → 0 < n → b < g
theorem Drawn.lt {w : World} {g : Nat} {a : Option Addr} {n c K : Nat} (h : Drawn w g a n c K) : g < w.heap.size := by
  obtain ⟨k, q, _, hs, _⟩ := h.src
  exact hs.in_heap
theorem Bytes.later {w w' : World} {N : Nat} {a : Option Addr} {n : Nat} (h : Bytes w a n) (hb : Below N w w') (hN : ∀ b o, a = some ⟨b, o, none⟩ → 0 < n → b < N) : Bytes w' a n := by
  intro j hj
  obtain ⟨b, o, ha, hl, v, hv, hc⟩ := h j hj
  exact ⟨b, o, ha, Nat.lt_of_lt_of_le hl hb.size, v, hv, (hb.cell (p := ⟨b, o + j, none⟩) (hN b o ha (by omega))).trans hc⟩
theorem Drawn.later {w w' : World} {g N : Nat} {a : Option Addr} {n c K : Nat} (h : Drawn w g a n c K) (hb : Below N w w') (hN : g < N) : Drawn w' g a n c K := by
  obtain ⟨k, q, hk, hs, h0, h1⟩ := h.src
  exact ⟨⟨k, q, hk, hs.later hb hN, h0, h1⟩, h.bytes.later hb (fun b o e hn => Nat.lt_trans (h.low b o e hn) hN), h.low⟩
theorem Drawn.mono {w : World} {g : Nat} {a : Option Addr} {n c K K' : Nat} (h : Drawn w g a n c K) (hK : K ≤ K') : Drawn w g a n c K' := by
  obtain ⟨k, q, hk, hs⟩ := h.src
  exact ⟨⟨k, q, Nat.le_trans hk hK, hs⟩, h.bytes, h.low⟩
theorem Drawn.after {w w' : World} {g : Nat} {a : Option Addr} {n c K : Nat} (h : Drawn w g a n c K) (hb : Below w.heap.size w w') : Drawn w' g a n c K := h.later hb h.lt
theorem Drawn.alloc {w : World} {g : Nat} {a : Option Addr} {n c K : Nat} (h : Drawn w g a n c K) (o : Obj) : Drawn (w.alloc o) g a n c K := h.after ((Below.refl _ _).alloc (Nat.le_refl _) o)

theorem next_ok (g : Nat) (a : Option Addr) (n c K : Nat) (w : World) (h : Drawn w g a n c K) (hK : K ≤ 1000000) :
    Calls Try.prog 78 #[.pointer (some ⟨g, 0, none⟩)] w fun e w' => ∃ v : Nat, v < 256 ∧ e = .returned (.int .i64 v) ∧ Drawn w' g a n c (K + 1) ∧ w.grownBy w' (some g) := by
  obtain ⟨k, q, hk, hs⟩ := h.src
  refine (next_any g a n c k q w hs h.bytes (by omega) (fun b o e hn => Nat.ne_of_lt (h.low b o e hn))).mono fun e w' hh => ?_
  obtain ⟨v, hv, he, ⟨q', hs'⟩, hg⟩ := hh
  refine ⟨v, hv, he, ⟨⟨k + 1, q', by omega, hs'⟩, ?_, h.low⟩, hg⟩
  intro j hj
  obtain ⟨b, o, ha, hl, v, hv, hc⟩ := h.bytes j hj
  have hbg : b ≠ g := Nat.ne_of_lt (h.low b o ha (by omega))
  refine ⟨b, o, ha, Nat.lt_of_lt_of_le hl hg.size, v, hv, ?_⟩
  exact (World.cell?_of_block (a := ⟨b, o + j, none⟩) (hg.block b hl (fun e => hbg (by injection e with e)))).trans hc

set_option maxHeartbeats 1000000 in
set_option maxRecDepth 20000 in
theorem pick_ok (m : Nat) (g : Nat) (a : Option Addr) (n c K : Nat) (w : World) (h : Drawn w g a n c K) (hK : K ≤ 1000000) (hm2 : 2 ≤ m) (hm : m ≤ 200) :
    Calls Try.prog 42 #[.pointer (some ⟨g, 0, none⟩), .int .i64 m] w fun e w' => ∃ r : Nat, r < m ∧ e = .returned (.int .i64 r) ∧ Drawn w' g a n c (K + 1) ∧ w.grownBy w' (some g) := by
  have H := keep (next_ok g a n c K w h hK)
  have hd1 : decide ((m : Int) ≤ 1) = false := by simp; omega
  have hd2 : decide ((200 : Int) < (m : Int)) = false := by simp; omega
  clear h
  go_enter Try.func42, Try.ntmps42
  go_wp2_with fail
  refine H.out.mono ?_
  rintro e w1 ⟨v, hv, rfl, hd, hg⟩
  have HD := keep hd
  have HG := keep hg
  have hv0 : (0 : Int) ≤ (v : Int) := by omega
  have hm1 : (1 : Int) ≤ (m : Int) := by omega
  clear hd hg
  go_wp2_with fail
  go_ret
  exact ⟨v % m, Nat.mod_lt _ (by omega), rfl, HD.out, HG.out⟩
end Go.Proofs.Ytmlocjcfcmifdaa
