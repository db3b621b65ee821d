/- Contract: drawn complex numbers of integers. Plain: what the sums of a row's equations, and of a ring's, come to in double precision. -/
import Derived.Test.YtmlocjcfcmifdaaXk
import Derived.Test.YtmlocjcfcmifdaaXj
namespace Go.Proofs.Ytmlocjcfcmifdaa
open Go.RowKit Go.Sort Ieee
set_option linter.unusedSimpArgs false
set_option linter.unusedVariables false

theorem xinfoC64 : (Try.prog.info? 29).map (fun i => (i.zero, i.size, i.bytes)) = some (some (.complex .f32 0 0), 1, 8) := by kernel_rfl
/-- The cells of complex numbers of integers. -/
def cwList (n : Nat) (f h : Nat → Int) : List Value := (List.range n).map fun i => Value.complex .f32 (iw (f i)) (iw (h i))
theorem cwList_at (n : Nat) (f h : Nat → Int) (i : Nat) (hi : i < n) : (cwList n f h)[i]? = some (.complex .f32 (iw (f i)) (iw (h i))) := by unfold cwList; simp [hi]
theorem cwList_snoc (n : Nat) (f h : Nat → Int) : cwList (n + 1) f h = cwList n f h ++ [.complex .f32 (iw (f n)) (iw (h n))] := by
  unfold cwList; rw [List.range_succ, List.map_append]; rfl
def CWc (w : World) (g n : Nat) (f h : Nat → Int) : Prop := g < w.heap.size ∧ ∀ i, i < n → w.cell? ⟨g, i, none⟩ = some (.complex .f32 (iw (f i)) (iw (h i)))
theorem CWc.after {w w' : World} {g n : Nat} {f h : Nat → Int} (H : CWc w g n f h) (hb : Below w.heap.size w w') : CWc w' g n f h :=
  ⟨Nat.lt_of_lt_of_le H.1 hb.size, fun i hi => (hb.cell (p := ⟨g, i, none⟩) H.1).trans (H.2 i hi)⟩
theorem own_cw {w : World} {B g c n : Nat} {f h : Nat → Int} (H : w.ownsRow B 29 1 (.slice (some ⟨g, 0, none⟩) n c) n (cwList n f h)) : CWc w g n f h := by
  refine ⟨(H.lt g rfl).2, fun i hi => ?_⟩
  have h2 := H.cells (g := g) rfl i _ (cwList_at n f h i hi)
  rwa [Addr.add_lit, Nat.zero_add] at h2

set_option maxHeartbeats 4000000 in
set_option maxRecDepth 20000 in
theorem B10Whole_ok (N : Nat) (hN : 1 ≤ N) (hN2 : N ≤ 100) (a : Option Addr) (n c : Nat) (w : World) (hb : Bytes w a n) :
    Calls Try.prog 9 #[.slice a n c, .int .i64 N, .int .i64 8] w fun e w' => ∃ (f h : Nat → Int) (g k : Nat), SmI f N 8 ∧ e = .returned (.slice (some ⟨g, 0, none⟩) N k) ∧ w.heap.size ≤ g ∧ CWc w' g N f h ∧ Below w.heap.size w w' := by
  have FR := keep (zFrom_ok a n c _ hb)
  have PK := keep (fun K w1 h hK => pick_ok 17 w.heap.size a n c K w1 h hK (by omega) (by omega))
  clear hb
  go_enter Try.func9, Try.ntmps9
  go_wp2_with fail
  refine FR.out.mono ?_
  rintro e w1 ⟨rfl, hd, hb⟩
  have D1 := keep (hd.alloc (.cells #[] 29))
  have B1 := keep (hb.alloc hb.size (.cells #[] 29))
  have R1 := keep (Has.made w1 29 #[])
  have z1 := hd.lt
  clear hd hb FR
  go_wp2_with fail
  go_loopw [1, 8] (fun t s wr => ∃ (j : Nat) (f h : Nat → Int) (A : Option Addr) (cp : Nat), j ≤ N ∧ t = .int .i64 ((N - j : Nat) : Int) ∧ s = .slice A j cp ∧ Kept (SmI f j 8) ∧ Kept (wr.ownsRow (w.heap.size + 1) 29 1 (.slice A j cp) j (cwList j f h)) ∧ Kept (Drawn wr w.heap.size a n c (2 * j)) ∧ Kept (Below w.heap.size w wr)) (fun t _ _ => (intOf t).toNat)
  case atStart => exact ⟨0, fun _ => 0, fun _ => 0, _, _, by omega, rfl, rfl, keep (fun i hi => by omega), keep ⟨rfl, .inr ⟨w1.heap.size, 0, #[], rfl, by omega, R1.out, Nat.le_refl _, by simp [maxLen], rfl, rfl⟩⟩, D1, B1⟩
  case round =>
    clear D1 R1 B1
    obtain ⟨j, f, h, A, cp, hj, rfl, rfl, hok, ho, hd, hbr⟩ := hrel
    by_cases hlt : j < N
    · have hi : ((0 : Int) < ((N - j : Nat) : Int)) := by omega
      have hi2 : ((N - j : Nat) : Int) - 1 = ((N - (j + 1) : Nat) : Int) := by omega
      generalize ((N - j : Nat) : Int) = L at *
      go_wp2_with fail
      refine (PK.out _ _ hd.out (by omega)).mono ?_
      rintro e w3 ⟨r, hr, rfl, hd3, hg3⟩
      have D3 := keep hd3
      have O3 := keep (zown_byG ho.out hg3 (by omega))
      have B3 := keep (hbr.out.grown hg3 hbr.out.size (fun g e => by injection e with e; omega))
      have z3 := hd3.lt
      have w8 : IntKind.i64.wrap ((r : Int) - 8) = (r : Int) - 8 := IntWalk.i64_in _ ⟨by omega, by omega⟩
      clear hd3 hg3 hd ho hbr
      go_wp2_with fail
      refine (PK.out _ _ D3.out (by omega)).mono ?_
      rintro e w4 ⟨q, hq, rfl, hd4, hg4⟩
      have D4 := keep hd4
      have O4 := keep (zown_byG O3.out hg4 (by omega))
      have B4 := keep (B3.out.grown hg4 B3.out.size (fun g e => by injection e with e; omega))
      have z4 := hd4.lt
      have w9 : IntKind.i64.wrap ((q : Int) - 8) = (q : Int) - 8 := IntWalk.i64_in _ ⟨by omega, by omega⟩
      clear hd4 hg4 D3 O3 B3
      obtain ⟨i0, hi0, hz0, hz1, hz2⟩ := info_parts xinfoC64
      have HI := keep hi0
      have HZ0 := keep hz0
      have HZ1 := keep hz1
      have HZ2 := keep hz2
      have wL : IntKind.i64.wrap (L - 1) = L - 1 := by rw [hi2]; exact IntWalk.i64_in _ ⟨by omega, by omega⟩
      clear hi0 hz0 hz1 hz2
      go_wp2_with (at_builtin; go_loud (refine wpList_append_own_at _ rfl _ _ 25 rfl (w.heap.size + 1) 29 i0 _ 1 8 Try.underlying25 HI.out HZ0.out HZ1.out HZ2.out rfl (by decide) (.slice A j cp) j _ rfl (O4.out.alloc _) ⟨w4.heap.size, 0, none⟩ 1 1 [.complex .f32 (iw ((r : Int) - 8)) (iw ((q : Int) - 8))] rfl rfl ?c1 ?c2 ?c3 ?c4 ?c5 ?_))
      case c1 =>
        intro i u hi
        rw [Addr.add_lit, Nat.zero_add]
        have e := (zhas_one w4 (.complex .f32 (iw ((r : Int) - 8)) (iw ((q : Int) - 8))) 29).cells i
        rw [← ofInt_iw, ← ofInt_iw] at e hi
        rw [e]
        simpa using hi
      case c2 =>
        intro u hu
        rw [List.mem_singleton.1 hu]; rfl
      case c3 => unfold maxLen; omega
      case c4 => omega
      case c5 => first | omega | (simp only [World.size_alloc]; omega)
      intro v' w5 hown' hgrow _ _
      obtain ⟨g', cap', rfl, hB', hlt'⟩ := hown'.form (by omega)
      have hL := O4.out.lt
      have bX : Below (w.heap.size + 1) _ w5 := (Below.refl (w.heap.size + 1) _).grown hgrow (by simp only [World.size_alloc]; omega) (fun b e => (hL b e).1)
      have D6 := keep ((D4.out.alloc _).later bX (by omega))
      have B6 := keep ((B4.out.alloc (by omega) _).trans (bX.mono (by omega)))
      have OW := keep hown'
      clear hown' hgrow bX hL w8 w9
      go_wp2_with fail
      go_roundw
      case rel => exact ⟨j + 1, fun i => if i = j then (r : Int) - 8 else f i, fun i => if i = j then (q : Int) - 8 else h i, _, _, by omega, by first | (rw [hi2]; done) | (simp only [hi2]) | rfl, rfl, keep (fun i hi => by
          dsimp only
          by_cases e : i = j
          · rw [if_pos e]; omega
          · rw [if_neg e]; exact hok.out i (by omega)), keep (by
          have e := OW.out
          rw [cwList_snoc]
          have e1 : cwList j (fun i => if i = j then (r : Int) - 8 else f i) (fun i => if i = j then (q : Int) - 8 else h i) = cwList j f h := by
            unfold cwList
            apply List.map_congr_left
            intro i hi
            have := List.mem_range.1 hi
            dsimp only
            rw [if_neg (by omega), if_neg (by omega)]
          try dsimp only
          rw [e1, if_pos rfl, if_pos rfl]
          exact e), keep (D6.out.mono (by omega)), B6⟩
      case measure => simp [intOf]; omega
    · obtain rfl : j = N := by omega
      obtain ⟨g', rfl⟩ : ∃ g, A = some ⟨g, 0, none⟩ := by
        rcases ho.out.2 with ⟨_, hn⟩ | ⟨g, cap, cur, e, _⟩
        · omega
        · injection e with e1; exact ⟨g, e1⟩
      have e0 : ((j - j : Nat) : Int) = 0 := by omega
      rw [e0]
      go_wp2_with fail
      go_ret
      have hg := (ho.out.lt g' rfl).1
      exact ⟨f, h, _, _, hok.out, rfl, by omega, own_cw ho.out, hbr.out⟩
end Go.Proofs.Ytmlocjcfcmifdaa
