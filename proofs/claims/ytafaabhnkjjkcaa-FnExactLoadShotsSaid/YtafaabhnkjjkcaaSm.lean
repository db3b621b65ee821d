/- Contracts: RecoverShots and LoadShots, by the program and by the reference; the laws' helpers over shots. -/
import Derived.Test.YtafaabhnkjjkcaaSi
import Derived.Test.YtafaabhnkjjkcaaSj
import Derived.Test.YtafaabhnkjjkcaaSl
import Derived.Test.YtafaabhnkjjkcaaSc
namespace Go.Proofs.Ytafaabhnkjjkcaa
open Go.RowKit Go.Sort

theorem recS_facts (s : ByteArray) (f p : Nat) : (recS s f p).1.length ≤ f ∧ ∀ c ∈ (recS s f p).1, c.fin = true ∧ c.ps.length ≤ 48 := by
  induction f generalizing p with
  | zero => exact ⟨Nat.zero_le _, fun c hc => by cases hc⟩
  | succ f ih =>
    cases hm : more s p
    · rw [recS_no s _ p hm]
      exact ⟨Nat.zero_le _, fun c hc => by cases hc⟩
    · rw [recS_yes s f p hm]
      obtain ⟨h1, h2⟩ := ih (endAt s p + 2)
      refine ⟨by simpa using h1, fun c hc => ?_⟩
      rcases List.mem_cons.1 hc with rfl | hc
      · have hg : goodAt s p = true := by
          unfold more at hm
          simp only [Bool.and_eq_true] at hm
          exact hm.1
        obtain ⟨_, _, g3, g4, g5, g6⟩ := good_facts s p hg
        refine ⟨?_, by show (psAt s p (nAt s p)).length ≤ 48; rw [psAt_length]; exact g3⟩
        unfold CD.fin
        simp only [Bool.and_eq_true]
        refine ⟨List.all_eq_true.2 fun q hq => PD.ok_fin q (List.all_eq_true.1 g4 q hq), g5, g6⟩
      · exact h2 c hc

/-- What is handed back: shots of these clouds, and the rest. -/
def ShotsRes (cds : List CD) (rest : List Value) (w : World) (e : Ending) (w' : World) : Prop :=
  ∃ a n c xs, e = .returned (.tuple (.agg #[.slice a n c] :: rest).toArray) ∧ OwnS w' w.heap.size (.slice a n c) xs ∧ xs.map (·.1) = cds ∧ Below w.heap.size w w'

set_option maxHeartbeats 4000000 in
set_option maxRecDepth 20000 in
theorem RecoverShots_any (s : ByteArray) (w : World) (hS : s.size ≤ 2000000) : Calls Try.prog 20 #[.string s] w (ShotsRes (recS s 8 0).1 [.int .i64 (recS s 8 0).2, .bool true] w) := by
  have H := keep (fun w => recoverShots_any s w hS)
  have P2 := keep (Has.made w 43 #[.slice none 0 0])
  go_enter Try.func20, Try.ntmps20
  go_wp2_with fail
  refine (H.out _).mono ?_
  rintro e w1 ⟨a, n, c, xs, rfl, ho, hx, hb⟩
  generalize recS s 8 0 = r at *
  have p2 := (P2.out.after hb).beside (.cells #[.slice a n c] 43)
  have c2 := p2.cells
  have f2 := p2.free
  have B := keep (((Below.refl w.heap.size w).alloc (Nat.le_refl _) (.cells #[.slice none 0 0] 43)).trans (hb.mono (by simp)))
  have O := keep (ho.alloc (.cells #[.slice a n c] 43))
  have HX := keep hx
  clear hb ho hx
  go_wp2_with fail
  have q := p2.written 0 (.slice a n c)
  have qc := q.cells
  have z := B.out.size
  exact bodyPost_ret (v := .tuple #[.agg #[.slice a n c], .int .i64 r.2, .bool true]) (by simp [results, Try.results20, go_sem, qc]) rfl ⟨a, n, c, xs, rfl, (O.out.low (by simp) _).mono (by simp), HX.out, (B.out.alloc z _).setCell (Nat.le_refl _) _⟩

set_option maxHeartbeats 4000000 in
set_option maxRecDepth 20000 in
theorem sRecoverShots_any (s : ByteArray) (w : World) (hS : s.size ≤ 2000000) : Calls Try.prog 19 #[.string s] w (ShotsRes (recS s 8 0).1 [.int .i64 (recS s 8 0).2, .bool true] w) := by
  have H := keep (fun w => l10Recover_any s w hS)
  have P2 := keep (Has.made w 43 #[.slice none 0 0])
  go_enter Try.func19, Try.ntmps19
  go_wp2_with fail
  refine (H.out _).mono ?_
  rintro e w1 ⟨a, n, c, xs, rfl, ho, hx, hb⟩
  generalize recS s 8 0 = r at *
  have p2 := (P2.out.after hb).beside (.cells #[.slice a n c] 43)
  have c2 := p2.cells
  have f2 := p2.free
  have B := keep (((Below.refl w.heap.size w).alloc (Nat.le_refl _) (.cells #[.slice none 0 0] 43)).trans (hb.mono (by simp)))
  have O := keep (ho.alloc (.cells #[.slice a n c] 43))
  have HX := keep hx
  clear hb ho hx
  go_wp2_with fail
  have q := p2.written 0 (.slice a n c)
  have qc := q.cells
  have z := B.out.size
  exact bodyPost_ret (v := .tuple #[.agg #[.slice a n c], .int .i64 r.2, .bool true]) (by simp [results, Try.results19, go_sem, qc]) rfl ⟨a, n, c, xs, rfl, (O.out.low (by simp) _).mono (by simp), HX.out, (B.out.alloc z _).setCell (Nat.le_refl _) _⟩

set_option maxHeartbeats 4000000 in
set_option maxRecDepth 20000 in
theorem LoadShots_any (s : ByteArray) (w : World) (hS : s.size ≤ 2000000) : Calls Try.prog 25 #[.string s] w (ShotsRes (if (recS s 8 0).2 = s.size then (recS s 8 0).1 else []) [.bool (decide ((recS s 8 0).2 = s.size))] w) := by
  have H := keep (fun w => recoverShots_any s w hS)
  have P2 := keep (Has.made w 43 #[.slice none 0 0])
  by_cases hf : (recS s 8 0).2 = s.size
  case pos =>
    have hd : (((recS s 8 0).2 : Int) != (s.size : Int)) = false := by rw [bne_eq_false_iff_eq]; omega
    rw [if_pos hf, show decide ((recS s 8 0).2 = s.size) = true by simpa using hf]
    clear hf
    go_enter Try.func25, Try.ntmps25
    go_wp2_with fail
    refine (H.out _).mono ?_
    rintro e w1 ⟨a, n, c, xs, rfl, ho, hx, hb⟩
    generalize recS s 8 0 = r at *
    have p2 := (P2.out.after hb).beside (.cells #[.slice a n c] 43)
    have c2 := p2.cells
    have f2 := p2.free
    have B := keep (((Below.refl w.heap.size w).alloc (Nat.le_refl _) (.cells #[.slice none 0 0] 43)).trans (hb.mono (by simp)))
    have O := keep (ho.alloc (.cells #[.slice a n c] 43))
    have HX := keep hx
    clear hb ho hx
    go_wp2_with fail
    have q := p2.written 0 (.slice a n c)
    have qc := q.cells
    have z := B.out.size
    exact bodyPost_ret (v := .tuple #[.agg #[.slice a n c], .bool true]) (by simp [results, Try.results25, go_sem, qc]) rfl ⟨a, n, c, xs, rfl, (O.out.low (by simp) _).mono (by simp), HX.out, (B.out.alloc z _).setCell (Nat.le_refl _) _⟩
  case neg =>
    have hd : (((recS s 8 0).2 : Int) != (s.size : Int)) = true := by rw [bne_iff_ne]; omega
    rw [if_neg hf, show decide ((recS s 8 0).2 = s.size) = false by simpa using hf]
    clear hf
    go_enter Try.func25, Try.ntmps25
    go_wp2_with fail
    refine (H.out _).mono ?_
    rintro e w1 ⟨a, n, c, xs, rfl, ho, hx, hb⟩
    generalize recS s 8 0 = r at *
    have p2 := (P2.out.after hb).beside (.cells #[.slice a n c] 43)
    have c2 := p2.cells
    have f2 := p2.free
    have B := keep (((Below.refl w.heap.size w).alloc (Nat.le_refl _) (.cells #[.slice none 0 0] 43)).trans (hb.mono (by simp)))
    clear hb ho hx
    go_wp2_with fail
    have q := p2.written 0 (.slice none 0 0)
    have qc := q.cells
    have z := B.out.size
    exact bodyPost_ret (v := .tuple #[.agg #[.slice none 0 0], .bool false]) (by simp [results, Try.results25, go_sem, qc]) rfl ⟨none, 0, 0, [], rfl, OwnS.nil_ _ _, rfl, (B.out.alloc z _).setCell (Nat.le_refl _) _⟩

set_option maxHeartbeats 4000000 in
set_option maxRecDepth 20000 in
theorem sLoadShots_any (s : ByteArray) (w : World) (hS : s.size ≤ 2000000) : Calls Try.prog 24 #[.string s] w (ShotsRes (if (recS s 8 0).2 = s.size then (recS s 8 0).1 else []) [.bool (decide ((recS s 8 0).2 = s.size))] w) := by
  have H := keep (fun w => l10Recover_any s w hS)
  have P2 := keep (Has.made w 43 #[.slice none 0 0])
  by_cases hf : (recS s 8 0).2 = s.size
  case pos =>
    have hd : (((recS s 8 0).2 : Int) != (s.size : Int)) = false := by rw [bne_eq_false_iff_eq]; omega
    rw [if_pos hf, show decide ((recS s 8 0).2 = s.size) = true by simpa using hf]
    clear hf
    go_enter Try.func24, Try.ntmps24
    go_wp2_with fail
    refine (H.out _).mono ?_
    rintro e w1 ⟨a, n, c, xs, rfl, ho, hx, hb⟩
    generalize recS s 8 0 = r at *
    have p2 := (P2.out.after hb).beside (.cells #[.slice a n c] 43)
    have c2 := p2.cells
    have f2 := p2.free
    have B := keep (((Below.refl w.heap.size w).alloc (Nat.le_refl _) (.cells #[.slice none 0 0] 43)).trans (hb.mono (by simp)))
    have O := keep (ho.alloc (.cells #[.slice a n c] 43))
    have HX := keep hx
    clear hb ho hx
    go_wp2_with fail
    have q := p2.written 0 (.slice a n c)
    have qc := q.cells
    have z := B.out.size
    exact bodyPost_ret (v := .tuple #[.agg #[.slice a n c], .bool true]) (by simp [results, Try.results24, go_sem, qc]) rfl ⟨a, n, c, xs, rfl, (O.out.low (by simp) _).mono (by simp), HX.out, (B.out.alloc z _).setCell (Nat.le_refl _) _⟩
  case neg =>
    have hd : (((recS s 8 0).2 : Int) != (s.size : Int)) = true := by rw [bne_iff_ne]; omega
    rw [if_neg hf, show decide ((recS s 8 0).2 = s.size) = false by simpa using hf]
    clear hf
    go_enter Try.func24, Try.ntmps24
    go_wp2_with fail
    refine (H.out _).mono ?_
    rintro e w1 ⟨a, n, c, xs, rfl, ho, hx, hb⟩
    generalize recS s 8 0 = r at *
    have p2 := (P2.out.after hb).beside (.cells #[.slice a n c] 43)
    have c2 := p2.cells
    have f2 := p2.free
    have B := keep (((Below.refl w.heap.size w).alloc (Nat.le_refl _) (.cells #[.slice none 0 0] 43)).trans (hb.mono (by simp)))
    clear hb ho hx
    go_wp2_with fail
    have q := p2.written 0 (.slice none 0 0)
    have qc := q.cells
    have z := B.out.size
    exact bodyPost_ret (v := .tuple #[.agg #[.slice none 0 0], .bool false]) (by simp [results, Try.results24, go_sem, qc]) rfl ⟨none, 0, 0, [], rfl, OwnS.nil_ _ _, rfl, (B.out.alloc z _).setCell (Nat.le_refl _) _⟩

set_option maxHeartbeats 4000000 in
set_option maxRecDepth 20000 in
theorem eqShots_any (B1 B2 : Nat) (v1 v2 : Value) (xs ys : List (CD × Value)) (w : World) (h1 : OwnS w B1 v1 xs) (h2 : OwnS w B2 v2 ys) (he : xs.map (·.1) = ys.map (·.1)) (hf : ∀ x ∈ xs, x.1.fin = true ∧ x.1.ps.length ≤ 48) (hN : xs.length ≤ 8) :
    Calls Try.prog 21 #[.agg #[v1], .agg #[v2]] w fun e w' => e = .returned (.bool true) ∧ Below w.heap.size w w' := by
  obtain ⟨a1, c1, rfl⟩ := owns_slice h1.row
  obtain ⟨a2, c2, rfl⟩ := owns_slice h2.row
  have E := keep (eqCloudS_any B1 B2 _ _ xs ys ((w.alloc (.cells #[.slice a1 xs.length c1] 43)).alloc (.cells #[.slice a2 ys.length c2] 43)) ((h1.alloc _).alloc _) ((h2.alloc _).alloc _) he hf hN)
  clear h1 h2 he hf
  go_enter Try.func21, Try.ntmps21
  go_wp2_with fail
  refine E.out.mono ?_
  rintro e w1 ⟨rfl, hb⟩
  have hz := hb.size
  have hB := ((Below.refl w.heap.size w).alloc (Nat.le_refl _) (.cells #[.slice a1 xs.length c1] 43)).alloc (by simp) (.cells #[.slice a2 ys.length c2] 43) |>.trans (hb.mono (by simp; omega))
  go_wp2_with fail
  go_ret
  exact ⟨rfl, hB⟩

set_option maxHeartbeats 4000000 in
set_option maxRecDepth 20000 in
theorem markShots_any (B : Nat) (v : Value) (xs : List (CD × Value)) (k : Nat) (w : World) (ho : OwnS w B v xs) (hB : B ≤ w.heap.size) (hf : ∀ x ∈ xs, x.1.ps.length ≤ 48) (hN : xs.length ≤ 8) (hk : k ≤ 10) :
    Calls Try.prog 22 #[.agg #[v], .int .i64 k] w fun e w' => e = .returned (.int .i64 (kAt xs.length k xs)) ∧ OwnS w' B v (markL xs.length k xs) ∧ Below B w w' ∧ KeepsShots w w' := by
  obtain ⟨a1, c1, rfl⟩ := owns_slice ho.row
  have E := keep (markCloudS_any B _ xs k (w.alloc (.cells #[.slice a1 xs.length c1] 43)) (ho.alloc _) hf hN hk)
  have HB := keep ((Below.refl B w).alloc hB (.cells #[.slice a1 xs.length c1] 43))
  clear ho hf
  generalize kAt xs.length k xs = r at *
  go_enter Try.func22, Try.ntmps22
  go_wp2_with fail
  refine E.out.mono ?_
  rintro e w1 ⟨rfl, ho, hb, hks⟩
  have HO := keep ho
  have HKS := keep hks
  clear ho hks
  go_wp2_with fail
  go_ret
  exact ⟨rfl, HO.out, HB.out.trans hb, fun g cs hh => HKS.out g cs (hh.beside _)⟩

set_option maxHeartbeats 4000000 in
set_option maxRecDepth 20000 in
theorem heldShots_any (B : Nat) (v : Value) (xs : List (CD × Value)) (k : Nat) (w : World) (ho : OwnS w B v (markL xs.length k xs)) (hf : ∀ x ∈ xs, x.1.ps.length ≤ 48) (hN : xs.length ≤ 8) (hk : k ≤ 10) :
    Calls Try.prog 23 #[.agg #[v], .int .i64 k] w fun e w' => e = .returned (.int .i64 (kAt xs.length k xs)) ∧ Below w.heap.size w w' := by
  obtain ⟨a1, c1, rfl⟩ := owns_slice ho.row
  have E := keep (heldCloudS_any B _ xs k (w.alloc (.cells #[.slice a1 (markL xs.length k xs).length c1] 43)) (ho.alloc _) hf hN hk)
  clear ho hf
  rw [markL_length] at E ⊢
  generalize kAt xs.length k xs = r at *
  have hd : decide ((r : Int) < 0) = false := by simp
  go_enter Try.func23, Try.ntmps23
  go_wp2_with fail
  refine E.out.mono ?_
  rintro e w' ⟨rfl, rfl⟩
  go_wp2_with fail
  go_ret
  exact ⟨rfl, by go_grown⟩
end Go.Proofs.Ytafaabhnkjjkcaa
