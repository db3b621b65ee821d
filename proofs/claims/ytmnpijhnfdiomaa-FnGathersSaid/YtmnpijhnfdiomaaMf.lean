/- Contracts: a field that is the same everywhere; a drawn particle by itself; a drawn field. -/
import Derived.Test.YtmnpijhnfdiomaaMe
import Derived.Test.YtmnpijhnfdiomaaHb
namespace Go.Proofs.Ytmnpijhnfdiomaa
open Go.RowKit Go.Sort Ieee
set_option linter.unusedSimpArgs false

theorem has_one (w : World) (v : Value) (t : TypeId) : Has (w.alloc (.cells #[v] t)) w.heap.size t #[v] := Has.made w t #[v]

set_option maxHeartbeats 4000000 in
set_option maxRecDepth 20000 in
theorem EvenField_ok (W H : Nat) (h : Sides W H) (v1 v2 : Nat) (hf : finC v1 v2 = true) (w : World) :
    Calls Try.prog 39 #[gridV W H, .complex .f32 v1 v2] w fun e w' => ∃ g1 g2 : Nat, e = .returned (.tuple #[.slice (some ⟨g1, 0, none⟩) (W * H) (W * H), .slice (some ⟨g2, 0, none⟩) (W * H) (W * H), .bool true]) ∧ Has w' g1 33 (List.replicate (W * H) (Value.float .f32 v1)).toArray ∧ Has w' g2 33 (List.replicate (W * H) (Value.float .f32 v2)).toArray ∧ Below w.heap.size w w' := by
  have IP := keep (fun w => isPlace_ok W H h v1 v2 hf w)
  have SZ := fun w => size_ok W H h w
  have SL := size_le W H h
  clear hf h
  unfold gridV at *
  generalize W * H = n at *
  have SZ := keep SZ
  have RP := keep (fun v b w hh => Repeat_ok v n (by omega) (by omega) b w hh)
  have P0 := keep (Has.made w 25 #[.int .i64 W, .int .i64 H])
  have B0 := keep ((Below.refl w.heap.size w).alloc (Nat.le_refl _) (.cells #[.int .i64 W, .int .i64 H] 25))
  go_enter Try.func39, Try.ntmps39
  go_wp2_with fail
  refine (IP.out _).mono ?_
  rintro e w1 ⟨rfl, hb⟩
  have B1 := keep (B0.out.trans (hb.mono B0.out.size))
  have p1 := P0.out.after hb
  have cg := p1.cells
  clear hb IP P0 p1 B0
  go_wp2_with fail
  refine (SZ.out _).mono ?_
  rintro e w2 ⟨rfl, hb⟩
  have B2 := keep (B1.out.trans (hb.mono B1.out.size))
  clear hb SZ B1 cg
  go_wp2_with fail
  refine (RP.out v1 _ _ (has_one w2 (.float .f32 v1) 33)).mono ?_
  rintro e w3 ⟨g1, rfl, hf, hb⟩
  have F3 := keep hf
  have B3 := keep ((B2.out.alloc B2.out.size (.cells #[.float .f32 v1] 33)).trans (hb.mono (by have := B2.out.size; simp only [World.size_alloc]; omega)))
  clear hf hb B2
  go_wp2_with fail
  refine (RP.out v2 _ _ (has_one w3 (.float .f32 v2) 33)).mono ?_
  rintro e w4 ⟨g2, rfl, hf, hb⟩
  have F4 := keep ((F3.out.beside (.cells #[.float .f32 v2] 33)).after hb)
  have G4 := keep hf
  have B4 := keep ((B3.out.alloc B3.out.size (.cells #[.float .f32 v2] 33)).trans (hb.mono (by have := B3.out.size; simp only [World.size_alloc]; omega)))
  clear hf hb B3 F3
  go_wp2_with fail
  exact bodyPost_ret (v := .tuple #[.slice (some ⟨g1, 0, none⟩) n n, .slice (some ⟨g2, 0, none⟩) n n, .bool true]) (by simp [results, Try.results39, go_sem]) rfl ⟨_, _, rfl, F4.out, G4.out, B4.out⟩

set_option maxHeartbeats 4000000 in
set_option maxRecDepth 20000 in
theorem R8Particle_ok (a : Option Addr) (n c : Nat) (w : World) (hb : Bytes w a n) :
    Calls Try.prog 35 #[.slice a n c] w fun e w' => ∃ p : GP, p.ok ∧ e = .returned p.agg ∧ Below w.heap.size w w' := by
  have P0 := keep (Has.made w 50 #[.complex .f32 0 0, .complex .f32 0 0, .float .f32 0, .float .f32 0])
  have B0 := keep ((Below.refl w.heap.size w).alloc (Nat.le_refl _) (.cells #[.complex .f32 0 0, .complex .f32 0 0, .float .f32 0, .float .f32 0] 50))
  have FR := keep (l00From_ok a n c _ (hb.alloc (.cells #[.complex .f32 0 0, .complex .f32 0 0, .float .f32 0, .float .f32 0] 50)))
  have DO := keep (fun K w1 h hK => l02DrawOne_any (w.heap.size + 1) a n c K w1 h hK)
  clear hb
  go_enter Try.func35, Try.ntmps35
  go_wp2_with fail
  refine FR.out.mono ?_
  rintro e w1 ⟨rfl, hd, hb⟩
  rw [World.size_alloc] at hd
  have HD := keep hd
  have P1 := keep (P0.out.after hb)
  have B1 := keep (B0.out.trans (hb.mono B0.out.size))
  clear hd hb P0 B0 FR
  go_wp2_with fail
  refine (DO.out _ _ HD.out (by omega)).mono ?_
  rintro e w2 ⟨p, hp, rfl, hd, hg⟩
  have B2 := B1.out.grown hg B1.out.size (fun g e => by injection e with e; omega)
  have p2 := P1.out.byG hg (by intro e; injection e with e; omega)
  have c2 := p2.cells
  have u2 := p2.free
  have HP := keep hp
  clear hd hg hp
  unfold GP.agg
  go_wp2_with fail
  have q := (((p2.written 0 (.complex .f32 (wd single 3 p.x) (wd single 3 p.y))).written 1 (.complex .f32 (wd single 3 p.u) (wd single 3 p.v))).written 2 (.float .f32 (wd single 1 p.q))).written 3 (.float .f32 (wd single 2 p.m))
  have qc := q.cells
  exact bodyPost_ret (v := GP.agg p) (by simp [results, Try.results35, go_sem, qc]; rfl) rfl ⟨p, HP.out, rfl, (((B2.setCell (Nat.le_refl _) _).setCell (Nat.le_refl _) _).setCell (Nat.le_refl _) _).setCell (Nat.le_refl _) _⟩

theorem fList_append (k : Nat) (a b : List Int) : fList k (a ++ b) = fList k a ++ fList k b := List.map_append ..
theorem Small.snoc {fs : List Int} {M : Nat} (h : Small fs M) (n : Int) (hn : n.natAbs ≤ M) : Small (fs ++ [n]) M := fun u hu => by
  rcases List.mem_append.1 hu with h1 | h1
  · exact h u h1
  · rw [List.mem_singleton.1 h1]; exact hn

set_option maxHeartbeats 4000000 in
set_option maxRecDepth 20000 in
theorem R8Field_ok (W H : Nat) (h : Sides W H) (a : Option Addr) (n c : Nat) (w : World) (hb : Bytes w a n) :
    Calls Try.prog 36 #[.slice a n c, gridV W H] w fun e w' => ∃ (fs : List Int) (g k : Nat), fs.length = W * H ∧ Small fs 8 ∧ e = .returned (.slice (some ⟨g, 0, none⟩) fs.length k) ∧ FldAt w' g 2 fs ∧ Below w.heap.size w w' := by
  have P0 := keep (Has.made w 25 #[.int .i64 W, .int .i64 H])
  have B0 := keep ((Below.refl w.heap.size w).alloc (Nat.le_refl _) (.cells #[.int .i64 W, .int .i64 H] 25))
  have FR := keep (l00From_ok a n c _ (hb.alloc (.cells #[.int .i64 W, .int .i64 H] 25)))
  have PK := keep (fun K w1 h hK => pick_ok 17 (w.heap.size + 1) a n c K w1 h hK (by omega) (by omega))
  have SL := size_le W H h
  have hwm : IntKind.i64.wrap ((W : Int) * (H : Int)) = ((W * H : Nat) : Int) := by
    rw [← Int.natCast_mul]
    exact IntWalk.i64_in _ ⟨by omega, by omega⟩
  clear hb h
  go_enter Try.func36, Try.ntmps36
  unfold gridV
  generalize W * H = N at *
  go_wp2_with fail
  refine FR.out.mono ?_
  rintro e w1 ⟨rfl, hd, hb⟩
  rw [World.size_alloc] at hd
  have D1 := keep (hd.alloc (.cells #[] 33))
  have p1 := (P0.out.after hb).beside (.cells #[] 33)
  have cg := p1.cells
  have B1 := keep ((B0.out.trans (hb.mono B0.out.size)).alloc (B0.out.trans (hb.mono B0.out.size)).size (.cells #[] 33))
  have R1 := keep (Has.made w1 33 #[])
  have z1 := hd.lt
  clear hd hb p1 P0 B0 FR
  go_wp2_with fail
  clear cg hwm
  go_loopw [7, 6] (fun t s wr => ∃ (j : Nat) (fs : List Int) (A : Option Addr) (cp : Nat), j + fs.length = N ∧ t = .int .i64 j ∧ s = .slice A fs.length cp ∧ Kept (Small fs 8) ∧ Kept (wr.ownsRow (w.heap.size + 2) 33 1 (.slice A fs.length cp) fs.length (fList 2 fs)) ∧ Kept (Drawn wr (w.heap.size + 1) a n c fs.length) ∧ Kept (Below w.heap.size w wr)) (fun t _ _ => (intOf t).toNat)
  case atStart => exact ⟨N, [], _, _, rfl, rfl, rfl, keep (fun p h => by cases h), keep ⟨rfl, .inr ⟨w1.heap.size, 0, #[], rfl, by omega, R1.out, Nat.le_refl _, by simp [maxLen], rfl, rfl⟩⟩, D1, B1⟩
  case round =>
    clear D1 R1 B1
    obtain ⟨j, fs, A, cp, hj, rfl, rfl, hok, ho, hd, hbr⟩ := hrel
    by_cases hlt : 0 < j
    · have hi : ((0 : Int) < (j : Int)) := by omega
      go_wp2_with fail
      refine (PK.out _ _ hd.out (by omega)).mono ?_
      rintro e w3 ⟨r, hr, rfl, hd3, hg3⟩
      have D3 := keep hd3
      have O3 := keep (own_byG ho.out hg3 (by omega))
      have B3 := keep (hbr.out.grown hg3 hbr.out.size (fun g e => by injection e with e; omega))
      have z3 := hd3.lt
      obtain ⟨i0, hi0, hz0, hz1, hz2⟩ := info_parts infoF32
      have HI := keep hi0
      have HZ0 := keep hz0
      have HZ1 := keep hz1
      have HZ2 := keep hz2
      have f3 := frun (div4 ((r : Int) - 8) (by omega) (by omega))
      have w8 : IntKind.i64.wrap ((r : Int) - 8) = (r : Int) - 8 := IntWalk.i64_in _ ⟨by omega, by omega⟩
      clear hi0 hz0 hz1 hz2 hd3 hg3 hd ho hbr
      go_wp2_with (at_builtin; go_loud (refine wpList_append_own_at _ rfl _ _ 30 rfl (w.heap.size + 2) 33 i0 _ 1 4 Try.underlying30 HI.out HZ0.out HZ1.out HZ2.out rfl (by decide) (.slice A fs.length cp) fs.length _ rfl (O3.out.alloc _) ⟨w3.heap.size, 0, none⟩ 1 1 [.float .f32 (wd single 2 ((r : Int) - 8))] rfl rfl ?c1 ?c2 ?c3 ?c4 ?c5 ?_))
      case c1 =>
        intro i u hi
        rw [Addr.add_lit, Nat.zero_add]
        have e := (has_one w3 (.float .f32 (wd single 2 ((r : Int) - 8))) 33).cells i
        rw [e]
        simpa using hi
      case c2 =>
        intro u hu
        rw [List.mem_singleton.1 hu]; rfl
      case c3 => unfold maxLen; omega
      case c4 => omega
      case c5 => first | omega | (simp only [World.size_alloc]; omega)
      intro v' w5 hown' hgrow _ _
      obtain ⟨g', cap', rfl, hB', hlt'⟩ := hown'.form (by omega)
      have hL := O3.out.lt
      have bX : Below (w.heap.size + 2) _ w5 := (Below.refl (w.heap.size + 2) _).grown hgrow (by simp only [World.size_alloc]; omega) (fun b e => (hL b e).1)
      have D6 := keep ((D3.out.alloc _).later bX (by omega))
      have B6 := keep ((B3.out.alloc (by omega) _).trans (bX.mono (by omega)))
      have OW := keep hown'
      clear hown' hgrow bX hL f3 w8
      go_wp2_with fail
      go_roundw
      case rel => exact ⟨j - 1, fs ++ [(r : Int) - 8], _, _, by rw [List.length_append]; show j - 1 + (fs.length + 1) = N; omega, by go_num, by rw [List.length_append]; rfl, keep (hok.out.snoc _ (by omega)), keep (by
          have e := OW.out
          rw [fList_append, List.length_append]
          exact e), keep (D6.out.mono (by rw [List.length_append]; show _ ≤ fs.length + 1; omega)), B6⟩
      case measure => simp [intOf]; omega
    · obtain rfl : j = 0 := by omega
      obtain ⟨g', rfl⟩ : ∃ g, A = some ⟨g, 0, none⟩ := by
        rcases ho.out.2 with ⟨_, hn⟩ | ⟨g, cap, cur, e, _⟩
        · omega
        · injection e with e1; exact ⟨g, e1⟩
      go_wp2_with fail
      go_ret
      exact ⟨fs, _, _, by omega, hok.out, rfl, own_fld ho.out, hbr.out⟩
end Go.Proofs.Ytmnpijhnfdiomaa
