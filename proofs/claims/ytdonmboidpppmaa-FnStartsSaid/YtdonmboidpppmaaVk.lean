/- Contract: a number of a byte of the code. Contracts: a drawn particle, number and place. No condition but that the bytes can be read. A region that draws its order, piece by piece: a run of plain reads in the order of the text, between operations that make memory. No program. Two particles made a slice, as one operation of a region: the walk's law with the values said. Contract: a drawn field (the walk of XMf's, by itself). -/
import Derived.Test.YtdonmboidpppmaaHe
import Derived.Test.YtdonmboidpppmaaGg
import Derived.Test.YtdonmboidpppmaaBc
import Derived.Deep.RegionHeld
import Derived.Lib.QuietBelow
import Derived.Test.YtdonmboidpppmaaHb
import Derived.Great.BuildSlice
import Derived.Test.YtdonmboidpppmaaMc
namespace Go.Proofs.Ytdonmboidpppmaa
open Go.RowKit Go.Sort Ieee
set_option linter.unusedSimpArgs false

set_option maxHeartbeats 1000000 in
theorem r8At_ok (a : Option Addr) (n c k m : Nat) (w : World) (hb : Bytes w a n) (hm : 2 ≤ m) (hm2 : m ≤ 100) :
    Calls Try.prog 24 #[.slice a n c, .int .i64 k, .int .i64 m] w fun e w' => (∃ r : Nat, r < m ∧ e = .returned (.int .i64 r)) ∧ w' = w := by
  have h1 : ¬ ((m : Int) ≤ 1) := by omega
  by_cases hlt : k < n
  · obtain ⟨b, o, rfl, hbl, v, hv, hc⟩ := hb k hlt
    have hi : (k : Int) < (n : Int) := by omega
    have hr : v % m < m := Nat.mod_lt _ (by omega)
    have hm0 : ¬ ((m : Int) = 0) := by omega
    have ht : Int.tmod (v : Int) (m : Int) = ((v % m : Nat) : Int) := by rw [Int.tmod_eq_emod_of_nonneg (by omega)]; rfl
    have hw : IntKind.i64.wrap ((v % m : Nat) : Int) = ((v % m : Nat) : Int) := IntWalk.i64_in _ ⟨by omega, by omega⟩
    have HR := keep hr
    clear hb hr hbl
    go_enter Try.func24, Try.ntmps24
    go_wp2_with fail
    go_ret
    exact ⟨⟨v % m, HR.out, by first | rfl | simp⟩, rfl⟩
  · have hi : ¬ ((k : Int) < (n : Int)) := by omega
    have hi2 : ((n : Int) ≤ (k : Int)) := by omega
    clear hb
    go_enter Try.func24, Try.ntmps24
    go_wp2_with fail
    go_ret
    exact ⟨⟨0, by omega, rfl⟩, rfl⟩

/-- Walls of halves are walls of eighths. -/
theorem half_word (r : Nat) (h : r ≤ 100) : wd single 1 (r : Int) = wd single 3 (4 * (r : Int)) := by
  have e := wd_up (f := single) fit_single binade_le_single (k := 1) (a := (r : Int)) 2 (by decide) (by show (r : Int).natAbs < 16777216; omega)
  rw [← e, Int.mul_comm]
  rfl
end Go.Proofs.Ytdonmboidpppmaa
namespace Go.Proofs.Ytdonmboidpppmaa
open Go.RowKit Go.Sort Ieee
set_option linter.unusedSimpArgs false
set_option linter.unusedVariables false


set_option maxHeartbeats 1000000 in
theorem R8Number_ok (a : Option Addr) (n c k : Nat) (w : World) (hb : Bytes w a n) (hk : k ≤ 100) :
    Calls Try.prog 21 #[.slice a n c, .int .i64 k] w fun e w' => ∃ x : Int, (-8 ≤ x ∧ x ≤ 8) ∧ e = .returned (.float .f32 (wd single 3 x)) ∧ w' = w := by
  by_cases hlt : k < n
  · obtain ⟨b, o, rfl, hbl, v, hv, hc⟩ := hb k hlt
    have hi : (k : Int) < (n : Int) := by omega
    have hr : (v : Int) % 17 < 17 ∧ 0 ≤ (v : Int) % 17 := by omega
    have ht : Int.tmod (v : Int) 17 = (v : Int) % 17 := by rw [Int.tmod_eq_emod_of_nonneg (by omega)]
    have hv' : IntKind.i64.wrap (v : Int) = (v : Int) := IntWalk.i64_in _ ⟨by omega, by omega⟩
    have hw : IntKind.i64.wrap ((v : Int) % 17) = ((v : Int) % 17) := IntWalk.i64_in _ ⟨by omega, by omega⟩
    have hw2 : IntKind.i64.wrap (((v : Int) % 17) - 8) = ((v : Int) % 17) - 8 := IntWalk.i64_in _ ⟨by omega, by omega⟩
    have f1 := zrun (div8 (((v : Int) % 17) - 8) (by omega) (by omega))
    have HR := keep hr
    clear hb hr hbl
    go_enter Try.func21, Try.ntmps21
    go_wp2_with fail
    go_ret
    exact ⟨((v : Int) % 17) - 8, ⟨by omega, by have := HR.out; omega⟩, by first | rfl | simp, rfl⟩
  · have hi : ¬ ((k : Int) < (n : Int)) := by omega
    have hi2 : ((n : Int) ≤ (k : Int)) := by omega
    clear hb
    go_enter Try.func21, Try.ntmps21
    go_wp2_with fail
    go_ret
    exact ⟨4, ⟨by omega, by omega⟩, by rw [show wd single 3 4 = 1056964608 from by decide +kernel]; rfl, rfl⟩

end Go.Proofs.Ytdonmboidpppmaa
namespace Go.Proofs.Ytdonmboidpppmaa
open Go.RowKit Go.Sort

/-- Operations that hand back a value and call nothing. -/
def plainOp (o : Oper) : Bool :=
  match o.op with
  | .move _ | .assign _ | .pick .. | .load .. | .binOp .. | .unOp .. | .convert .. | .slice .. | .fieldAddr .. | .field .. | .indexAddr .. | .index .. | .extract .. => true
  | .call c => match c.callee with
    | .builtin .real | .builtin .imag | .builtin .complex | .builtin .len | .builtin .cap | .builtin .min | .builtin .max => true
    | _ => false
  | _ => false

theorem value_of_bind {P : Program} {s : Sem Value} {w w' : World} {n : Next} (h : Sem.run P (do pure (Next.value (← s))) w = .ok n w') : ∃ v, n = .value v := by
  rw [Sem.run_bind] at h
  generalize Sem.run P s w = r at h
  cases r with
  | ok v w1 => simp only [Result.andThen_ok, Sem.run_pure] at h; injection h with h1 h2; exact ⟨v, h1.symm⟩
  | halt x w1 => cases h

theorem plain_value {P : Program} {ρ : Operand → Value} {o : Oper} (ho : plainOp o = true) {w w' : World} {n : Next} (h : (execOp ρ o).run P w = .ok n w') : ∃ v, n = .value v := by
  unfold plainOp at ho
  unfold execOp at h
  split at ho
  all_goals (rename_i e; try rw [e] at h)
  all_goals first | exact value_of_bind h | skip
  all_goals try (simp only [Sem.run_pure] at h; injection h with h1 h2; exact ⟨_, h1.symm⟩)
  · rw [Sem.run_bind] at h
    generalize Sem.run P (asBool _) w = r at h
    cases r with
    | ok v w1 => simp only [Result.andThen_ok, Sem.run_pure] at h; injection h with h1 h2; exact ⟨_, h1.symm⟩
    | halt x w1 => cases h
  · rename_i c
    simp only [resolve] at h
    split at ho
    all_goals first | (rename_i e2; rw [e2] at h; simp only [Sem.run_bind, Sem.run_pure, Result.andThen_ok, invoke, builtin] at h; exact value_of_bind (by rw [Sem.run_bind]; exact h)) | cases ho
  · cases ho

section
variable {P : Program} {ops : Array Oper} {Q : Exit → Act → World → Prop} {md : Region.Mode} {S : World → Prop}

theorem yieldsIf_of_quiet {o : Oper} {a : Act} {K : Act → Prop} (hp : plainOp o = true) (hw : Region.wanted o (yielded ops a.tmps) = true) (h : o.quiet P a S K) : ∃ v, YieldsIf P ops S o v a ∧ K (a.put o.dst v) := by
  obtain ⟨v, h1, h2⟩ := h
  refine ⟨v, .inl ⟨hw, fun w hw' => ?_⟩, h2⟩
  have h3 := h1 w hw'
  unfold Oper.quietAt at h3
  generalize hr : (execOp a.eval o).run P w = r at *
  cases r with
  | ok n w' =>
    obtain ⟨u, rfl⟩ := plain_value hp hr
    simp only [Oper.quietUpon] at h3
    obtain ⟨rfl, rfl⟩ := h3
    rfl
  | halt x w' => simp only [Oper.quietUpon] at h3

/-- Which are listed behind n operations from the k-th on. -/
def markFrom (listed : Array Bool) : Nat → Nat → Array Bool
  | _, 0 => listed
  | k, n + 1 => markFrom (listed.setIfInBounds k true) (k + 1) n

def segB (md : Region.Mode) (ops : Array Oper) : Nat → Nat → Array Bool → Bool
  | _, 0, _ => true
  | k, n + 1, listed => (Region.ready md ops listed).contains k && Region.free md ops listed k && ((ops[k]?).map plainOp).getD false && segB md ops (k + 1) n (listed.setIfInBounds k true)

theorem wpAnyH_seg (hs : Region.noSelect ops = true) (hQ : ∀ c a d v w, Q (.panic c) (Act.put a d v) w → Q (.panic c) a w) (fuel : Nat) :
    ∀ (n k : Nat) (listed : Array Bool) (a : Act) (w : World), S w → segB md ops k n listed = true →
      wpQuiet P ops S (fun a' => ∀ w', S w' → wpAnyH P md ops Q S fuel (markFrom listed k n) a' w') ((ops.toList.drop k).take n) a → wpAnyH P md ops Q S (n + fuel) listed a w
  | 0, k, listed, a, w, hS, _, h => by
    rw [Nat.zero_add]
    exact h w hS
  | n + 1, k, listed, a, w, hS, hB, h => by
    simp only [segB, Bool.and_eq_true] at hB
    obtain ⟨⟨⟨hr, hf⟩, hp⟩, hB⟩ := hB
    generalize ho : ops[k]? = r at hp
    cases r with
    | none => cases hp
    | some o =>
      have hp : plainOp o = true := hp
      have hlt : k < ops.size := by
        rcases Nat.lt_or_ge k ops.size with h' | h'
        · exact h'
        · rw [Array.getElem?_eq_none h'] at ho; cases ho
      have hd : ops.toList.drop k = o :: ops.toList.drop (k + 1) := by
        rw [List.drop_eq_getElem_cons (by simpa using hlt)]
        congr 1
        have := Array.getElem?_eq_getElem hlt
        rw [ho] at this
        injection this with this
        simpa using this.symm
      rw [hd, List.take_succ_cons] at h
      have hgo : ∀ v, YieldsIf P ops S o v a → wpQuiet P ops S (fun a' => ∀ w', S w' → wpAnyH P md ops Q S fuel (markFrom listed k (n + 1)) a' w') ((ops.toList.drop (k + 1)).take n) (a.put o.dst v) → wpAnyH P md ops Q S (n + 1 + fuel) listed a w := fun v hy hq => by
        rw [show n + 1 + fuel = (n + fuel) + 1 from by omega]
        exact wpAnyH_first ho (Region.noSelect_spec hs) (fun c a w h => hQ c a _ _ w h) (n + fuel) listed a w (Region.free_spec ho hf) (by simpa using hr) hy hS
          (wpAnyH_seg hs hQ fuel n (k + 1) _ _ w hS hB hq)
      unfold wpQuiet at h
      by_cases hw : Region.wanted o (yielded ops a.tmps) = true
      · rw [if_pos hw] at h
        obtain ⟨v, hy, hK⟩ := yieldsIf_of_quiet (ops := ops) hp hw h
        exact hgo v hy hK
      · rw [if_neg hw] at h
        exact hgo undef (.inr ⟨by simpa using hw, rfl⟩) h

/-- The end of a region. -/
theorem wpAnyH_end {listed : Array Bool} {a : Act} {w : World} (hr : Region.ready md ops listed = []) (h : Q .normal a w) (fuel : Nat) : wpAnyH P md ops Q S fuel listed a w := wpAnyH_done hr h fuel
end
end Go.Proofs.Ytdonmboidpppmaa
namespace Go.Proofs.Ytdonmboidpppmaa
open Go.RowKit Go.Sort Ieee

theorem of_wanted {b : Bool} {A B : Prop} (hb : b = true) (h : A) : if b = true then A else B := by rw [if_pos hb]; exact h
theorem wp_two {o : Oper} {a : Act} {w : World} {K : Act → World → Prop} {Q : Exit → Act → World → Prop} (x1 x2 : Operand) (ho : o.op = .buildSlice 27 2 #[(0, x1), (1, x2)]) (p q : PD)
    (h1 : a.eval x1 = .agg #[.complex .f32 p.a p.b, .complex .f32 p.c p.d, .float .f32 p.q, .float .f32 p.m]) (h2 : a.eval x2 = .agg #[.complex .f32 q.a q.b, .complex .f32 q.c q.d, .float .f32 q.q, .float .f32 q.m])
    (h : K (a.put o.dst (.slice (some ⟨w.heap.size, 0, none⟩) 2 2)) (w.alloc (.cells #[.complex .f32 p.a p.b, .complex .f32 p.c p.d, .float .f32 p.q, .float .f32 p.m, .complex .f32 q.a q.b, .complex .f32 q.c q.d, .float .f32 q.q, .float .f32 q.m] 41))) : o.wp Try.prog a w K Q := by
  obtain ⟨i0, hi0, hz0, hz1, hz2⟩ := info_parts infoParticle
  refine wp_buildSlice 27 41 2 _ ho _ i0 _ Try.underlying27 hi0 hz0 (by rw [hz1]; decide) (by rw [hz1]; decide) ?_ h
  rw [hz1]
  have e : (#[(0, x1), (1, x2)].map fun (y : Nat × Operand) => (y.1, a.eval y.2)).toList = [(0, a.eval x1), (1, a.eval x2)] := by simp
  show Instr.fill _ _ (#[(0, x1), (1, x2)].map fun (y : Nat × Operand) => (y.1, a.eval y.2)).toList = _
  rw [e, h1, h2]
  first | kernel_rfl | (simp [go_sem]; done) | (simp [go_sem, Instr.fill]; done)
end Go.Proofs.Ytdonmboidpppmaa
namespace Go.Proofs.Ytdonmboidpppmaa
open Go.RowKit Go.Sort Ieee
set_option linter.unusedSimpArgs false

theorem has_one (w : World) (v : Value) (t : TypeId) : Has (w.alloc (.cells #[v] t)) w.heap.size t #[v] := Has.made w t #[v]
theorem fList_append (k : Nat) (a b : List Int) : fList k (a ++ b) = fList k a ++ fList k b := List.map_append ..
theorem Small.snoc {fs : List Int} {M : Nat} (h : Small fs M) (n : Int) (hn : n.natAbs ≤ M) : Small (fs ++ [n]) M := fun u hu => by
  rcases List.mem_append.1 hu with h1 | h1
  · exact h u h1
  · rw [List.mem_singleton.1 h1]; exact hn

set_option maxHeartbeats 4000000 in
set_option maxRecDepth 20000 in
theorem R8Field_ok (W H : Nat) (h : Sides W H) (a : Option Addr) (n c : Nat) (w : World) (hb : Bytes w a n) :
    Calls Try.prog 20 #[.slice a n c, gridV W H] w fun e w' => ∃ (fs : List Int) (g k : Nat), fs.length = W * H ∧ Small fs 8 ∧ e = .returned (.slice (some ⟨g, 0, none⟩) fs.length k) ∧ FldAt w' g 2 fs ∧ Below w.heap.size w w' := by
  have P0 := keep (Has.made w 25 #[.int .i64 W, .int .i64 H])
  have B0 := keep ((Below.refl w.heap.size w).alloc (Nat.le_refl _) (.cells #[.int .i64 W, .int .i64 H] 25))
  have FR := keep (l00From_ok a n c _ (hb.alloc (.cells #[.int .i64 W, .int .i64 H] 25)))
  have PK := keep (fun K w1 h hK => pick_ok 17 (w.heap.size + 1) a n c K w1 h hK (by omega) (by omega))
  have SL := size_le W H h
  have hwm : IntKind.i64.wrap ((W : Int) * (H : Int)) = ((W * H : Nat) : Int) := by
    rw [← Int.natCast_mul]
    exact IntWalk.i64_in _ ⟨by omega, by omega⟩
  clear hb h
  go_enter Try.func20, Try.ntmps20
  unfold gridV
  generalize W * H = N at *
  go_wp2_with fail
  refine FR.out.mono ?_
  rintro e w1 ⟨rfl, hd, hb⟩
  rw [World.size_alloc] at hd
  have D1 := keep (hd.alloc (.cells #[] 32))
  have p1 := (P0.out.after hb).beside (.cells #[] 32)
  have cg := p1.cells
  have B1 := keep ((B0.out.trans (hb.mono B0.out.size)).alloc (B0.out.trans (hb.mono B0.out.size)).size (.cells #[] 32))
  have R1 := keep (Has.made w1 32 #[])
  have z1 := hd.lt
  clear hd hb p1 P0 B0 FR
  go_wp2_with fail
  clear cg hwm
  go_loopw [7, 6] (fun t s wr => ∃ (j : Nat) (fs : List Int) (A : Option Addr) (cp : Nat), j + fs.length = N ∧ t = .int .i64 j ∧ s = .slice A fs.length cp ∧ Kept (Small fs 8) ∧ Kept (wr.ownsRow (w.heap.size + 2) 32 1 (.slice A fs.length cp) fs.length (fList 2 fs)) ∧ Kept (Drawn wr (w.heap.size + 1) a n c fs.length) ∧ Kept (Below w.heap.size w wr)) (fun t _ _ => (intOf t).toNat)
  case atStart => exact ⟨N, [], _, _, rfl, rfl, rfl, keep (fun p h => by cases h), keep ⟨rfl, .inr ⟨w1.heap.size, 0, #[], rfl, by omega, R1.out, Nat.le_refl _, by simp [maxLen], rfl, rfl⟩⟩, D1, B1⟩
  case round =>
    clear D1 R1 B1
    obtain ⟨j, fs, A, cp, hj, rfl, rfl, hok, ho, hd, hbr⟩ := hrel
    by_cases hlt : 0 < j
    · have hi : ((0 : Int) < (j : Int)) := by omega
      go_wp2_with fail
      refine (PK.out _ _ hd.out (by omega)).mono ?_
      rintro e w3 ⟨r, hr, rfl, hd3, hg3⟩
      have D3 := keep hd3
      have O3 := keep (own_byG ho.out hg3 (by omega))
      have B3 := keep (hbr.out.grown hg3 hbr.out.size (fun g e => by injection e with e; omega))
      have z3 := hd3.lt
      obtain ⟨i0, hi0, hz0, hz1, hz2⟩ := info_parts infoF32
      have HI := keep hi0
      have HZ0 := keep hz0
      have HZ1 := keep hz1
      have HZ2 := keep hz2
      have f3 := frun (div4 ((r : Int) - 8) (by omega) (by omega))
      have w8 : IntKind.i64.wrap ((r : Int) - 8) = (r : Int) - 8 := IntWalk.i64_in _ ⟨by omega, by omega⟩
      clear hi0 hz0 hz1 hz2 hd3 hg3 hd ho hbr
      go_wp2_with (at_builtin; go_loud (refine wpList_append_own_at _ rfl _ _ 29 rfl (w.heap.size + 2) 32 i0 _ 1 4 Try.underlying29 HI.out HZ0.out HZ1.out HZ2.out rfl (by decide) (.slice A fs.length cp) fs.length _ rfl (O3.out.alloc _) ⟨w3.heap.size, 0, none⟩ 1 1 [.float .f32 (wd single 2 ((r : Int) - 8))] rfl rfl ?c1 ?c2 ?c3 ?c4 ?c5 ?_))
      case c1 =>
        intro i u hi
        rw [Addr.add_lit, Nat.zero_add]
        have e := (has_one w3 (.float .f32 (wd single 2 ((r : Int) - 8))) 32).cells i
        rw [e]
        simpa using hi
      case c2 =>
        intro u hu
        rw [List.mem_singleton.1 hu]; rfl
      case c3 => unfold maxLen; omega
      case c4 => omega
      case c5 => first | omega | (simp only [World.size_alloc]; omega)
      intro v' w5 hown' hgrow _ _
      obtain ⟨g', cap', rfl, hB', hlt'⟩ := hown'.form (by omega)
      have hL := O3.out.lt
      have bX : Below (w.heap.size + 2) _ w5 := (Below.refl (w.heap.size + 2) _).grown hgrow (by simp only [World.size_alloc]; omega) (fun b e => (hL b e).1)
      have D6 := keep ((D3.out.alloc _).later bX (by omega))
      have B6 := keep ((B3.out.alloc (by omega) _).trans (bX.mono (by omega)))
      have OW := keep hown'
      clear hown' hgrow bX hL f3 w8
      go_wp2_with fail
      go_roundw
      case rel => exact ⟨j - 1, fs ++ [(r : Int) - 8], _, _, by rw [List.length_append]; show j - 1 + (fs.length + 1) = N; omega, by go_num, by rw [List.length_append]; rfl, keep (hok.out.snoc _ (by omega)), keep (by
          have e := OW.out
          rw [fList_append, List.length_append]
          exact e), keep (D6.out.mono (by rw [List.length_append]; show _ ≤ fs.length + 1; omega)), B6⟩
      case measure => simp [intOf]; omega
    · obtain rfl : j = 0 := by omega
      obtain ⟨g', rfl⟩ : ∃ g, A = some ⟨g, 0, none⟩ := by
        rcases ho.out.2 with ⟨_, hn⟩ | ⟨g, cap, cur, e, _⟩
        · omega
        · injection e with e1; exact ⟨g, e1⟩
      go_wp2_with fail
      go_ret
      exact ⟨fs, _, _, by omega, hok.out, rfl, own_fld ho.out, hbr.out⟩
end Go.Proofs.Ytdonmboidpppmaa
