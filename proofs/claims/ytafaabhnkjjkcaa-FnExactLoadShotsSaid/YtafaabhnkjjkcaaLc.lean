/- Contracts: the cloud of a text, by the program and by the reference. -/
import Derived.Test.YtafaabhnkjjkcaaBegin
namespace Go.Proofs.Ytafaabhnkjjkcaa
open Go.RowKit Go.Sort

theorem prefix_mark (s : ByteArray) (h : 4 ≤ s.size) : Lib.hasPrefix s.data.toList [67, 76, 68, 49] = markAt s 0 := by
  have h1 := Lib.hasPrefix_raw s ⟨#[67, 76, 68, 49]⟩
  rw [← mark_str s 0 (by omega)]
  have e : (⟨#[67, 76, 68, 49]⟩ : ByteArray).size = 4 := rfl
  rw [e, show decide (4 ≤ s.size) = true by simp; omega] at h1
  rw [show (⟨#[67, 76, 68, 49]⟩ : ByteArray).data.toList = [67, 76, 68, 49] from rfl] at h1
  rw [← h1, Lib.toList_data ⟨#[67, 76, 68, 49]⟩]
  rfl

/-- The program's cloud at the beginning of a text. -/
def LoadAny (s : ByteArray) (w : World) (e : Ending) (w' : World) : Prop := (goodAt s 0 = true → LoadYes s w e w') ∧ (goodAt s 0 = false → LoadNo w e w')

theorem good_rest (s : ByteArray) (h : 15 ≤ s.size) (hm : markAt s 0 = true) : goodAt s 0 = true ↔ goodRest s := by
  unfold goodAt goodRest nAt
  rw [hm, show decide (0 + 15 ≤ s.size) = true by simp; omega]
  simp [and_assoc]

theorem loadCloud_all (s : ByteArray) (w : World) (hS : s.size ≤ 2000000) : Calls Try.prog 47 #[.string s] w (LoadAny s w) := by
  by_cases h : s.size < 15
  · refine (loadCloud_short s w h).mono fun e w' hn => ⟨fun hg => ?_, fun _ => hn⟩
    unfold goodAt at hg
    rw [show decide (0 + 15 ≤ s.size) = false by simp; omega] at hg
    simp at hg
  · cases hm : markAt s 0
    · refine (loadCloud_else s w (by omega) (by rw [prefix_mark s (by omega), hm])).mono fun e w' hn => ⟨fun hg => ?_, fun _ => hn⟩
      unfold goodAt at hg
      rw [hm] at hg
      simp at hg
    · refine (loadCloud_rest s w (by omega) hS (by rw [prefix_mark s (by omega), hm])).mono fun e w' hn => ⟨fun hg => hn.1 ((good_rest s (by omega) hm).1 hg), fun hg => hn.2 (fun hr => ?_)⟩
      rw [(good_rest s (by omega) hm).2 hr] at hg
      cases hg

theorem l10Begin_all (s : ByteArray) (p : Nat) (w : World) (hS : s.size ≤ 2000000) (hp : p ≤ s.size) : Calls Try.prog 46 #[.string s, .int .i64 p] w (BeginOut s p w) := by
  by_cases h : s.size < p + 15
  · refine (l10Begin_short s p w hS hp h).mono fun e w' hn => ⟨fun hg => ?_, fun _ => hn⟩
    unfold goodAt at hg
    rw [show decide (p + 15 ≤ s.size) = false by simp; omega] at hg
    simp at hg
  · cases hm : markAt s p
    · refine (l10Begin_else s p w hS (by omega) hm).mono fun e w' hn => ⟨fun hg => ?_, fun _ => hn⟩
      unfold goodAt at hg
      rw [hm] at hg
      simp at hg
    · exact l10Begin_rest s p w hS (by omega) hm

/-- Is the whole text a cloud's? -/
def full (s : ByteArray) : Bool := goodAt s 0 && decide (15 + 24 * nAt s 0 = s.size)
def wdOf (s : ByteArray) : Int := if full s then byteAt s 4 else 0
def hgOf (s : ByteArray) : Int := if full s then byteAt s 5 else 0
def mgOf (s : ByteArray) : Nat := if full s then numAt s 6 else 0
def bkOf (s : ByteArray) : Nat := if full s then numAt s 10 else 0
def psOf (s : ByteArray) : List PD := if full s then psAt s 0 (nAt s 0) else []

/-- What both functions hand back. -/
def LoadRes (s : ByteArray) (w : World) (e : Ending) (w' : World) : Prop :=
  ∃ a n c, e = .returned (.tuple #[cloudV (wdOf s) (hgOf s) (.slice a n c) (mgOf s) (bkOf s), .bool (full s)]) ∧ w'.ownsRow w.heap.size 25 4 (.slice a n c) (psOf s).length (psCells (psOf s)) ∧ Below w.heap.size w w'

theorem LoadRes.no {s : ByteArray} {w w' : World} (hf : full s = false) (hb : Below w.heap.size w w') : LoadRes s w (.returned (.tuple #[cloudV 0 0 (.slice none 0 0) 0 0, .bool false])) w' := by
  unfold LoadRes wdOf hgOf mgOf bkOf psOf
  rw [hf]
  exact ⟨none, 0, 0, rfl, World.ownsRow_nil _ _ _ _, hb⟩
theorem LoadRes.yes {s : ByteArray} {w w' : World} {a : Option Addr} {n c : Nat} (hf : full s = true) (ho : w'.ownsRow w.heap.size 25 4 (.slice a n c) (psAt s 0 (nAt s 0)).length (psCells (psAt s 0 (nAt s 0)))) (hb : Below w.heap.size w w') :
    LoadRes s w (.returned (.tuple #[cloudV (byteAt s 4) (byteAt s 5) (.slice a n c) (numAt s 6) (numAt s 10), .bool true])) w' := by
  unfold LoadRes wdOf hgOf mgOf bkOf psOf
  rw [hf]
  exact ⟨a, n, c, rfl, ho, hb⟩

set_option maxHeartbeats 20000000 in
set_option maxRecDepth 20000 in
theorem LoadCloud_any (s : ByteArray) (w : World) (hS : s.size ≤ 2000000) : Calls Try.prog 18 #[.string s] w (LoadRes s w) := by
  have HL := keep (fun w => loadCloud_all s w hS)
  have p2 := Has.made w 34 #[.int .i64 0, .int .i64 0, .slice none 0 0, .float .f32 0, .float .f32 0]
  have P2 := keep p2
  clear p2
  cases hg : goodAt s 0
  case false =>
    have HG := keep hg
    have hf : full s = false := by unfold full; rw [hg]; rfl
    have HF := keep hf
    clear hg hf
    go_enter Try.func18, Try.ntmps18
    go_wp2_with fail
    refine (HL.out _).mono ?_
    rintro e w1 hl
    obtain ⟨rfl, hb⟩ := hl.2 HG.out
    unfold cloudV
    have q := P2.out.after hb
    have c2 := q.cells
    have f2 := q.free
    have z2 := q.in_heap
    clear hl
    go_wp2_with fail
    have r := Has.beside (((((q.written 0 (.int .i64 0)).written 1 (.int .i64 0)).written 2 (.slice none 0 0)).written 3 (.float .f32 0)).written 4 (.float .f32 0)) (.cells #[.int .i64 0, .int .i64 0, .slice none 0 0, .float .f32 0, .float .f32 0] 34)
    have rc := r.cells
    have b0 := (((Below.refl w.heap.size w).alloc (Nat.le_refl _) (.cells #[.int .i64 0, .int .i64 0, .slice none 0 0, .float .f32 0, .float .f32 0] 34)).trans (hb.mono (by simp)))
    have s0 := b0.size
    exact bodyPost_ret (v := .tuple #[cloudV 0 0 (.slice none 0 0) 0 0, .bool false]) (by simp [results, Try.results18, go_sem, rc]; rfl) rfl (LoadRes.no HF.out ((((((b0.setCell (Nat.le_refl _) _).setCell (Nat.le_refl _) _).setCell (Nat.le_refl _) _).setCell (Nat.le_refl _) _).setCell (Nat.le_refl _) _).alloc (by simp; omega) _))
  case true =>
    have HG := keep hg
    have hN : ∃ N : Nat, 15 + 24 * nAt s 0 = N := ⟨_, rfl⟩
    obtain ⟨N, hN⟩ := hN
    by_cases hfull : N = s.size
    case neg =>
      have hf : full s = false := by unfold full; rw [hN, show decide (N = s.size) = false by simpa using hfull]; simp
      have HF := keep hf
      have hne : ((N : Int) != (s.size : Int)) = true := by rw [bne_iff_ne]; omega
      have HN := keep hN
      clear hg hf hN hfull
      go_enter Try.func18, Try.ntmps18
      go_wp2_with fail
      refine (HL.out _).mono ?_
      rintro e w1 hl
      obtain ⟨a, n, c, rfl, ho, hb⟩ := hl.1 HG.out
      rw [HN.out]
      unfold cloudV
      have q := P2.out.after hb
      have c2 := q.cells
      have f2 := q.free
      have z2 := q.in_heap
      have HO := keep ho
      clear hl ho
      go_wp2_with fail
      have r := Has.beside (((((q.written 0 (.int .i64 0)).written 1 (.int .i64 0)).written 2 (.slice none 0 0)).written 3 (.float .f32 0)).written 4 (.float .f32 0)) (.cells #[.int .i64 (byteAt s 4), .int .i64 (byteAt s 5), .slice a n c, .float .f32 (numAt s 6), .float .f32 (numAt s 10)] 34)
      have rc := r.cells
      have b0 := (((Below.refl w.heap.size w).alloc (Nat.le_refl _) (.cells #[.int .i64 0, .int .i64 0, .slice none 0 0, .float .f32 0, .float .f32 0] 34)).trans (hb.mono (by simp)))
      have s0 := b0.size
      exact bodyPost_ret (v := .tuple #[cloudV 0 0 (.slice none 0 0) 0 0, .bool false]) (by simp [results, Try.results18, go_sem, rc]; rfl) rfl (LoadRes.no HF.out ((((((b0.setCell (Nat.le_refl _) _).setCell (Nat.le_refl _) _).setCell (Nat.le_refl _) _).setCell (Nat.le_refl _) _).setCell (Nat.le_refl _) _).alloc (by simp; omega) _))
    case pos =>
      have hf : full s = true := by unfold full; rw [hg, hN, show decide (N = s.size) = true by simpa using hfull]; rfl
      have HF := keep hf
      have hne : ((N : Int) != (s.size : Int)) = false := by rw [bne_eq_false_iff_eq]; omega
      have HN := keep hN
      clear hg hf hN hfull
      go_enter Try.func18, Try.ntmps18
      go_wp2_with fail
      refine (HL.out _).mono ?_
      rintro e w1 hl
      obtain ⟨a, n, c, rfl, ho, hb⟩ := hl.1 HG.out
      rw [HN.out]
      unfold cloudV
      have q := P2.out.after hb
      have c2 := q.cells
      have f2 := q.free
      have z2 := q.in_heap
      have HO := keep ho
      clear hl ho
      go_wp2_with fail
      have r := Has.beside (((((q.written 0 (.int .i64 (byteAt s 4))).written 1 (.int .i64 (byteAt s 5))).written 2 (.slice a n c)).written 3 (.float .f32 (numAt s 6))).written 4 (.float .f32 (numAt s 10))) (.cells #[.int .i64 (byteAt s 4), .int .i64 (byteAt s 5), .slice a n c, .float .f32 (numAt s 6), .float .f32 (numAt s 10)] 34)
      have rc := r.cells
      have b0 := (((Below.refl w.heap.size w).alloc (Nat.le_refl _) (.cells #[.int .i64 0, .int .i64 0, .slice none 0 0, .float .f32 0, .float .f32 0] 34)).trans (hb.mono (by simp)))
      have s0 := b0.size
      have o1 := HO.out
      rw [World.size_alloc] at o1
      have oo := (ownsRow_setCell_below (a := ⟨w.heap.size, 4, none⟩) (ownsRow_setCell_below (a := ⟨w.heap.size, 3, none⟩) (ownsRow_setCell_below (a := ⟨w.heap.size, 2, none⟩) (ownsRow_setCell_below (a := ⟨w.heap.size, 1, none⟩) (ownsRow_setCell_below (a := ⟨w.heap.size, 0, none⟩) o1 (by show w.heap.size < w.heap.size + 1; omega) (.int .i64 (byteAt s 4))) (by show w.heap.size < w.heap.size + 1; omega) (.int .i64 (byteAt s 5))) (by show w.heap.size < w.heap.size + 1; omega) (.slice a n c)) (by show w.heap.size < w.heap.size + 1; omega) (.float .f32 (numAt s 6))) (by show w.heap.size < w.heap.size + 1; omega) (.float .f32 (numAt s 10))).alloc (.cells #[.int .i64 (byteAt s 4), .int .i64 (byteAt s 5), .slice a n c, .float .f32 (numAt s 6), .float .f32 (numAt s 10)] 34)
      exact bodyPost_ret (v := .tuple #[cloudV (byteAt s 4) (byteAt s 5) (.slice a n c) (numAt s 6) (numAt s 10), .bool true]) (by simp [results, Try.results18, go_sem, rc]; rfl) rfl (LoadRes.yes HF.out (oo.mono (by omega)) ((((((b0.setCell (Nat.le_refl _) _).setCell (Nat.le_refl _) _).setCell (Nat.le_refl _) _).setCell (Nat.le_refl _) _).setCell (Nat.le_refl _) _).alloc (by simp; omega) _))
/-- The reference's cloud at the beginning of a text. -/
def Begin0 (s : ByteArray) (w : World) (e : Ending) (w' : World) : Prop := (goodAt s 0 = true → LoadYes s w e w') ∧ (goodAt s 0 = false → BeginNo w e w')
theorem Begin0_all (s : ByteArray) (w : World) (hS : s.size ≤ 2000000) : Calls Try.prog 46 #[.string s, .int .i64 0] w (Begin0 s w) := by
  refine Calls.mono (l10Begin_all s 0 w hS (Nat.zero_le _)) fun e w' h => ⟨fun hg => ?_, h.2⟩
  obtain ⟨a, n, c, he, ho, hb⟩ := h.1 hg
  refine ⟨a, n, c, ?_, ho, hb⟩
  rw [he]

set_option maxHeartbeats 20000000 in
set_option maxRecDepth 20000 in
theorem sLoadCloud_any (s : ByteArray) (w : World) (hS : s.size ≤ 2000000) : Calls Try.prog 17 #[.string s] w (LoadRes s w) := by
  have HL := keep (fun w => Begin0_all s w hS)
  have p2 := Has.made w 34 #[.int .i64 0, .int .i64 0, .slice none 0 0, .float .f32 0, .float .f32 0]
  have P2 := keep p2
  clear p2
  cases hg : goodAt s 0
  case false =>
    have HG := keep hg
    have hf : full s = false := by unfold full; rw [hg]; rfl
    have HF := keep hf
    clear hg hf
    go_enter Try.func17, Try.ntmps17
    go_wp2_with fail
    refine (HL.out _).mono ?_
    rintro e w1 hl
    obtain ⟨wd, hg, a, n, c, mg, bk, z, rfl, hb⟩ := hl.2 HG.out
    unfold cloudV
    have q := P2.out.after hb
    have c2 := q.cells
    have f2 := q.free
    have z2 := q.in_heap
    clear hl
    go_wp2_with fail
    have r := Has.beside (((((q.written 0 (.int .i64 0)).written 1 (.int .i64 0)).written 2 (.slice none 0 0)).written 3 (.float .f32 0)).written 4 (.float .f32 0)) (.cells #[.int .i64 wd, .int .i64 hg, .slice a n c, .float .f32 mg, .float .f32 bk] 34)
    have rc := r.cells
    have b0 := (((Below.refl w.heap.size w).alloc (Nat.le_refl _) (.cells #[.int .i64 0, .int .i64 0, .slice none 0 0, .float .f32 0, .float .f32 0] 34)).trans (hb.mono (by simp)))
    have s0 := b0.size
    exact bodyPost_ret (v := .tuple #[cloudV 0 0 (.slice none 0 0) 0 0, .bool false]) (by simp [results, Try.results17, go_sem, rc]; rfl) rfl (LoadRes.no HF.out ((((((b0.setCell (Nat.le_refl _) _).setCell (Nat.le_refl _) _).setCell (Nat.le_refl _) _).setCell (Nat.le_refl _) _).setCell (Nat.le_refl _) _).alloc (by simp; omega) _))
  case true =>
    have HG := keep hg
    have hN : ∃ N : Nat, 15 + 24 * nAt s 0 = N := ⟨_, rfl⟩
    obtain ⟨N, hN⟩ := hN
    by_cases hfull : N = s.size
    case neg =>
      have hf : full s = false := by unfold full; rw [hN, show decide (N = s.size) = false by simpa using hfull]; simp
      have HF := keep hf
      have hne : ((N : Int) != (s.size : Int)) = true := by rw [bne_iff_ne]; omega
      have HN := keep hN
      clear hg hf hN hfull
      go_enter Try.func17, Try.ntmps17
      go_wp2_with fail
      refine (HL.out _).mono ?_
      rintro e w1 hl
      obtain ⟨a, n, c, rfl, ho, hb⟩ := hl.1 HG.out
      rw [HN.out]
      unfold cloudV
      have q := P2.out.after hb
      have c2 := q.cells
      have f2 := q.free
      have z2 := q.in_heap
      have HO := keep ho
      clear hl ho
      go_wp2_with fail
      have r := Has.beside (((((q.written 0 (.int .i64 0)).written 1 (.int .i64 0)).written 2 (.slice none 0 0)).written 3 (.float .f32 0)).written 4 (.float .f32 0)) (.cells #[.int .i64 (byteAt s 4), .int .i64 (byteAt s 5), .slice a n c, .float .f32 (numAt s 6), .float .f32 (numAt s 10)] 34)
      have rc := r.cells
      have b0 := (((Below.refl w.heap.size w).alloc (Nat.le_refl _) (.cells #[.int .i64 0, .int .i64 0, .slice none 0 0, .float .f32 0, .float .f32 0] 34)).trans (hb.mono (by simp)))
      have s0 := b0.size
      exact bodyPost_ret (v := .tuple #[cloudV 0 0 (.slice none 0 0) 0 0, .bool false]) (by simp [results, Try.results17, go_sem, rc]; rfl) rfl (LoadRes.no HF.out ((((((b0.setCell (Nat.le_refl _) _).setCell (Nat.le_refl _) _).setCell (Nat.le_refl _) _).setCell (Nat.le_refl _) _).setCell (Nat.le_refl _) _).alloc (by simp; omega) _))
    case pos =>
      have hf : full s = true := by unfold full; rw [hg, hN, show decide (N = s.size) = true by simpa using hfull]; rfl
      have HF := keep hf
      have hne : ((N : Int) != (s.size : Int)) = false := by rw [bne_eq_false_iff_eq]; omega
      have HN := keep hN
      clear hg hf hN hfull
      go_enter Try.func17, Try.ntmps17
      go_wp2_with fail
      refine (HL.out _).mono ?_
      rintro e w1 hl
      obtain ⟨a, n, c, rfl, ho, hb⟩ := hl.1 HG.out
      rw [HN.out]
      unfold cloudV
      have q := P2.out.after hb
      have c2 := q.cells
      have f2 := q.free
      have z2 := q.in_heap
      have HO := keep ho
      clear hl ho
      go_wp2_with fail
      have r := Has.beside (((((q.written 0 (.int .i64 (byteAt s 4))).written 1 (.int .i64 (byteAt s 5))).written 2 (.slice a n c)).written 3 (.float .f32 (numAt s 6))).written 4 (.float .f32 (numAt s 10))) (.cells #[.int .i64 (byteAt s 4), .int .i64 (byteAt s 5), .slice a n c, .float .f32 (numAt s 6), .float .f32 (numAt s 10)] 34)
      have rc := r.cells
      have b0 := (((Below.refl w.heap.size w).alloc (Nat.le_refl _) (.cells #[.int .i64 0, .int .i64 0, .slice none 0 0, .float .f32 0, .float .f32 0] 34)).trans (hb.mono (by simp)))
      have s0 := b0.size
      have o1 := HO.out
      rw [World.size_alloc] at o1
      have oo := (ownsRow_setCell_below (a := ⟨w.heap.size, 4, none⟩) (ownsRow_setCell_below (a := ⟨w.heap.size, 3, none⟩) (ownsRow_setCell_below (a := ⟨w.heap.size, 2, none⟩) (ownsRow_setCell_below (a := ⟨w.heap.size, 1, none⟩) (ownsRow_setCell_below (a := ⟨w.heap.size, 0, none⟩) o1 (by show w.heap.size < w.heap.size + 1; omega) (.int .i64 (byteAt s 4))) (by show w.heap.size < w.heap.size + 1; omega) (.int .i64 (byteAt s 5))) (by show w.heap.size < w.heap.size + 1; omega) (.slice a n c)) (by show w.heap.size < w.heap.size + 1; omega) (.float .f32 (numAt s 6))) (by show w.heap.size < w.heap.size + 1; omega) (.float .f32 (numAt s 10))).alloc (.cells #[.int .i64 (byteAt s 4), .int .i64 (byteAt s 5), .slice a n c, .float .f32 (numAt s 6), .float .f32 (numAt s 10)] 34)
      exact bodyPost_ret (v := .tuple #[cloudV (byteAt s 4) (byteAt s 5) (.slice a n c) (numAt s 6) (numAt s 10), .bool true]) (by simp [results, Try.results17, go_sem, rc]; rfl) rfl (LoadRes.yes HF.out (oo.mono (by omega)) ((((((b0.setCell (Nat.le_refl _) _).setCell (Nat.le_refl _) _).setCell (Nat.le_refl _) _).setCell (Nat.le_refl _) _).setCell (Nat.le_refl _) _).alloc (by simp; omega) _))
end Go.Proofs.Ytafaabhnkjjkcaa
