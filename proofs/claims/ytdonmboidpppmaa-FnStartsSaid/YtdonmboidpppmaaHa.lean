/- Lists of particles as bits: valid particles, and lists of them. -/
import Derived.Test.YtdonmboidpppmaaGj
import Derived.Test.YtdonmboidpppmaaGb
import Derived.Laws.OwnMore
import Derived.Maps.AppendAt
namespace Go.Proofs.Ytdonmboidpppmaa
open Go.RowKit Go.Sort Ieee

theorem all_take_succ (p : Nat → Bool) (xs : List Nat) (k : Nat) (h : k < xs.length) : (xs.take (k + 1)).all p = ((xs.take k).all p && p (xs.getD k 0)) := by
  rw [List.take_succ_eq_append_getElem h, List.all_append]
  simp [List.getD, h]

theorem all_take_drop (p : Nat → Bool) (xs : List Nat) (k : Nat) : xs.all p = ((xs.take k).all p && (xs.drop k).all p) := by
  rw [← List.all_append, List.take_append_drop]

set_option maxHeartbeats 400000 in
theorem areFinite_any (xs : List Nat) (b off c : Nat) (w : World) (hn : xs.length ≤ 1000000) (hc : ∀ i, i < xs.length → w.cell? ⟨b, off + i, none⟩ = some (.float .f32 (xs.getD i 0))) :
    Calls Try.prog 36 #[.slice (some ⟨b, off, none⟩) xs.length c] w fun e w' => e = .returned (.bool (xs.all (fin .f32))) ∧ ∃ m, w' = w.drewN m := by
  have Hc := keep hc
  clear hc
  go_enter Try.func36, Try.ntmps36
  go_wp2_with fail
  go_loopw [7] (fun i wr => ∃ k m : Nat, k ≤ xs.length ∧ i = .int .i64 k ∧ wr = w.drewN m ∧ Kept ((xs.take k).all (fin .f32) = true)) (fun i _ => xs.length - (intOf i).toNat)
  case atStart => exact ⟨0, 0, Nat.zero_le _, rfl, rfl, keep (by simp)⟩
  case round =>
    obtain ⟨k, m, hk, rfl, rfl, hall⟩ := hrel
    by_cases hlt : k < xs.length
    · have hcell := Hc.out k hlt
      have hs := keep (all_take_succ (fin .f32) xs k hlt)
      generalize hx : xs.getD k 0 = x at *
      have Hx := keep hx
      clear hx
      cases hf : fin .f32 x
      · go_wp2_with (go_at_call 35; refine (IsFinite32 _ _).mono ?_; rintro e w' ⟨rfl, m', rfl⟩)
        go_ret
        refine ⟨?_, _, rfl⟩
        have e : xs.all (fin .f32) = false := by
          have h2 := all_take_drop (fin .f32) xs (k + 1)
          rw [hs.out, hf] at h2
          simpa using h2
        rw [e]; rfl
      · go_wp2_with (go_at_call 35; refine (IsFinite32 _ _).mono ?_; rintro e w' ⟨rfl, m', rfl⟩)
        go_roundw
        case rel => exact ⟨k + 1, _, by omega, by go_num, rfl, keep (by rw [hs.out, hall.out, hf]; rfl)⟩
        case measure => simp [intOf]; omega
    · go_wp2
      go_ret
      refine ⟨?_, _, rfl⟩
      have e : xs.all (fin .f32) = true := by
        have h2 := hall.out
        rwa [List.take_of_length_le (by omega)] at h2
      rw [e]; rfl

theorem areFinite_two (q m b c : Nat) (w : World) (h0 : w.cell? ⟨b, 0, none⟩ = some (.float .f32 q)) (h1 : w.cell? ⟨b, 1, none⟩ = some (.float .f32 m)) :
    Calls Try.prog 36 #[.slice (some ⟨b, 0, none⟩) 2 c] w fun e w' => e = .returned (.bool (fin .f32 q && fin .f32 m)) ∧ ∃ n, w' = w.drewN n :=
  (areFinite_any [q, m] b 0 c w (by simp) (fun i hi => by
    have h2 : i < 2 := by simpa using hi
    have h3 : i = 0 ∨ i = 1 := by omega
    rcases h3 with rfl | rfl
    · simpa using h0
    · simpa using h1)).mono fun e w' ⟨he, hw⟩ => ⟨by simpa using he, hw⟩

def validP (a b c d q m : Nat) : Bool := finC a b && finC c d && (fin .f32 q && fin .f32 m) && (FloatKind.f32.format.order m 0 == some .gt)

set_option maxHeartbeats 400000 in
theorem ValidParticle_any (a b c d q m : Nat) (w : World) :
    Calls Try.prog 46 #[.agg #[.complex .f32 a b, .complex .f32 c d, .float .f32 q, .float .f32 m]] w fun e w' => e = .returned (.bool (validP a b c d q m)) ∧ Below w.heap.size w w' := by
  unfold validP
  cases h1 : finC a b
  · go_enter Try.func46, Try.ntmps46
    go_wp2_with (first | (go_at_call 47; refine (IsFiniteC _ _ _).mono ?_; rintro e w' ⟨rfl, m', rfl⟩))
    go_ret
    exact ⟨by simp, by refine Below.drewN_of ?_ _; go_grown⟩
  · cases h2 : finC c d
    · go_enter Try.func46, Try.ntmps46
      go_wp2_with (first | (go_at_call 47; refine (IsFiniteC _ _ _).mono ?_; rintro e w' ⟨rfl, m', rfl⟩))
      go_ret
      exact ⟨by simp, by refine Below.drewN_of ?_ _; go_grown⟩
    · go_enter Try.func46, Try.ntmps46
      go_wp2_with (first | (go_at_call 47; refine (IsFiniteC _ _ _).mono ?_; rintro e w' ⟨rfl, m', rfl⟩))
      have hA := areFinite_two q m (w.heap.size + 1) 2
      cases h3 : (fin .f32 q && fin .f32 m)
      all_goals
        rw [h3] at hA
        have HA := keep hA
        clear hA
        go_wp2_with (go_at_call 36; refine (HA.out _ (by go_simp) (by go_simp)).mono ?_; rintro e w' ⟨rfl, m', rfl⟩)
        go_ret
        exact ⟨by rw [h3]; simp, by refine Below.drewN_of ?_ _; go_grown⟩

/-- A particle's numbers, as bits. -/
structure PD where
  a : Nat
  b : Nat
  c : Nat
  d : Nat
  q : Nat
  m : Nat

def PD.cells (p : PD) : List Value := [.complex .f32 p.a p.b, .complex .f32 p.c p.d, .float .f32 p.q, .float .f32 p.m]
def psCells (ps : List PD) : List Value := ps.flatMap PD.cells

theorem psCells_length (ps : List PD) : (psCells ps).length = ps.length * 4 := by
  induction ps with
  | nil => rfl
  | cons p ps ih => simp only [psCells, List.flatMap_cons, List.length_append, List.length_cons] at *; rw [ih]; simp [PD.cells]; omega

theorem psCells_at (ps : List PD) : ∀ (i : Nat) (h : i < ps.length) (j : Nat), j < 4 → (psCells ps)[i * 4 + j]? = ps[i].cells[j]? := by
  induction ps with
  | nil => intro i h; cases h
  | cons p ps ih =>
    intro i h j hj
    simp only [psCells, List.flatMap_cons]
    have hp : p.cells.length = 4 := rfl
    cases i with
    | zero =>
      rw [List.getElem?_append_left (by omega)]
      simp
    | succ i =>
      rw [List.getElem?_append_right (by omega), hp]
      have h' : i < ps.length := by simpa using h
      rw [show (i + 1) * 4 + j - 4 = i * 4 + j from by omega]
      exact ih i h' j hj

theorem take_set4 (cur : Array Value) (m : Nat) (a b c d : Value) (h : m + 4 ≤ cur.size) (m' : Nat) (hm : m' = m + 4) :
    ((((cur.setIfInBounds m a).setIfInBounds (m + 1) b).setIfInBounds (m + 2) c).setIfInBounds (m + 3) d).toList.take m' = cur.toList.take m ++ [a, b, c, d] := by
  subst hm
  obtain ⟨l⟩ := cur
  have hl : m + 4 ≤ l.length := by simpa using h
  simp only [List.setIfInBounds_toArray]
  have hsplit : l = l.take m ++ l.drop m := (List.take_append_drop m l).symm
  have hd : (l.drop m).length = l.length - m := List.length_drop
  have ht : (l.take m).length = m := by rw [List.length_take]; omega
  generalize l.take m = pre at *
  generalize l.drop m = post at *
  subst hsplit
  match post, hd with
  | x0 :: x1 :: x2 :: x3 :: r, _ =>
    subst ht
    simp [List.take_append, List.take_of_length_le (show pre.length ≤ pre.length + 4 by omega)]
  | [], hd => simp at hd hl; omega
  | [_], hd => simp at hd hl; omega
  | [_, _], hd => simp at hd hl; omega
  | [_, _, _], hd => simp at hd hl; omega

theorem owns_cell {w : World} {B e g n cap : Nat} {xs : List Value} (h : w.ownsRow B e 4 (.slice (some ⟨g, 0, none⟩) n cap) n xs) {j : Nat} {u : Value} (hu : xs[j]? = some u) : w.cell? ⟨g, j, none⟩ = some u := by
  have h2 := h.cells (g := g) rfl j u hu
  rwa [Addr.add_lit, Nat.zero_add] at h2

theorem owns_below {w w' : World} {B e n : Nat} {v : Value} {xs : List Value} {size : Nat} (h : w.ownsRow B e size v n xs) (hb : Below w.heap.size w w') : w'.ownsRow B e size v n xs :=
  h.kept (row := none) ⟨hb.os, hb.tape, hb.output, hb.size, fun k hk _ => hb.block k hk⟩ (by cases v.ownBlock <;> simp)

def PD.ok (p : PD) : Bool := validP p.a p.b p.c p.d p.q p.m

set_option maxHeartbeats 1000000 in
theorem notValid_any (a b c d q m : Nat) (w : World) : Calls Try.prog 64 #[.agg #[.complex .f32 a b, .complex .f32 c d, .float .f32 q, .float .f32 m]] w fun e w' => e = .returned (.bool (!validP a b c d q m)) ∧ Below w.heap.size w w' := by
  have H := keep (fun w => ValidParticle_any a b c d q m w)
  go_enter Try.func64, Try.ntmps64
  go_wp2_with fail
  refine (H.out _).mono ?_
  rintro e w' ⟨rfl, hb⟩
  have hb2 := ((Below.refl w.heap.size w).alloc (Nat.le_refl _) (.cells #[.complex .f32 a b, .complex .f32 c d, .float .f32 q, .float .f32 m] 41)).trans (hb.mono (by simp))
  go_wp2_with fail
  go_ret
  exact ⟨rfl, hb2⟩

set_option maxHeartbeats 1000000 in
set_option maxRecDepth 20000 in
theorem IndexFunc_ok (B : Nat) (v : Value) (ps : List PD) (w : World) (hown : w.ownsRow B 41 4 v ps.length (psCells ps)) (hok : ps.all PD.ok = true) (hN : ps.length ≤ 1000000) :
    Calls Try.prog 79 #[v, .func (.func 64) #[] #[]] w fun e w' => e = .returned (.int .i64 (-1)) ∧ Below w.heap.size w w' := by
  obtain ⟨A, c, rfl, hA⟩ : ∃ A c, v = .slice A ps.length c ∧ (0 < ps.length → ∃ g, A = some ⟨g, 0, none⟩ ∧ g < w.heap.size ∧ ∀ j u, (psCells ps)[j]? = some u → w.cell? ⟨g, j, none⟩ = some u) := by
    rcases hown.2 with ⟨rfl, hn⟩ | ⟨g, cap, cur, rfl, _⟩
    · exact ⟨_, _, by rw [hn], fun h => by omega⟩
    · exact ⟨_, _, rfl, fun _ => ⟨g, rfl, (hown.lt g rfl).2, fun j u hu => owns_cell hown hu⟩⟩
  have HA := keep hA
  have HO := keep hok
  clear hown hA hok
  go_enter Try.func79, Try.ntmps79
  go_wp2_with fail
  go_loopw [8] (fun s wr => ∃ i : Nat, i ≤ ps.length ∧ s = .int .i64 i ∧ Below w.heap.size w wr) (fun s _ => ps.length - (intOf s).toNat)
  case atStart => exact ⟨0, Nat.zero_le _, rfl, Below.refl _ _⟩
  case round =>
    obtain ⟨i, hi, rfl, hb⟩ := hrel
    by_cases hlt : i < ps.length
    · obtain ⟨g, rfl, hg, hcell⟩ := HA.out (by omega)
      have hc2 : ∀ (j : Nat) (u : Value), j < 4 → ps[i].cells[j]? = some u → wr.cell? ⟨g, i * 4 + j, none⟩ = some u := fun j u hj hu => by
        rw [hb.cell (p := ⟨g, i * 4 + j, none⟩) hg]
        exact hcell _ _ (by rw [psCells_at _ i hlt j hj]; exact hu)
      have c0 : wr.cell? ⟨g, i * 4, none⟩ = some (.complex .f32 ps[i].a ps[i].b) := hc2 0 _ (by omega) rfl
      have c1 : wr.cell? ⟨g, i * 4 + 1, none⟩ = some (.complex .f32 ps[i].c ps[i].d) := hc2 1 _ (by omega) rfl
      have c2 : wr.cell? ⟨g, i * 4 + 2, none⟩ = some (.float .f32 ps[i].q) := hc2 2 _ (by omega) rfl
      have c3 : wr.cell? ⟨g, i * 4 + 3, none⟩ = some (.float .f32 ps[i].m) := hc2 3 _ (by omega) rfl
      have hoki : ps[i].ok = true := List.all_eq_true.1 HO.out _ (List.getElem_mem hlt)
      have hE := notValid_any ps[i].a ps[i].b ps[i].c ps[i].d ps[i].q ps[i].m wr
      rw [show validP ps[i].a ps[i].b ps[i].c ps[i].d ps[i].q ps[i].m = true from hoki] at hE
      have HE := keep hE
      clear hE hoki hc2 hcell HA HO
      generalize ps[i] = p at *
      go_wp2_with fail
      refine HE.out.mono ?_
      rintro e w2 ⟨rfl, hb2⟩
      have HB := keep (hb.trans (hb2.mono hb.size))
      clear c0 c1 c2 c3 hb2
      go_wp2_with fail
      refine ⟨⟨i + 1, by omega, by go_num, HB.out⟩, by simp [intOf]; omega⟩
    · obtain rfl : i = ps.length := by omega
      go_wp2_with fail
      go_ret
      exact ⟨rfl, hb⟩

set_option maxHeartbeats 1000000 in
theorem AreParticles_ok (B : Nat) (v : Value) (ps : List PD) (w : World) (hown : w.ownsRow B 41 4 v ps.length (psCells ps)) (hok : ps.all PD.ok = true) (hN : ps.length ≤ 64) :
    Calls Try.prog 38 #[v] w fun e w' => e = .returned (.bool true) ∧ Below w.heap.size w w' := by
  have H := keep (IndexFunc_ok B v ps w hown hok (by omega))
  have hC : Calls Try.prog 63 #[v, .func (.func 64) #[] #[]] w fun e w' => e = .returned (.bool false) ∧ Below w.heap.size w w' := by
    clear hown hok
    go_enter Try.func63, Try.ntmps63
    go_wp2_with fail
    refine H.out.mono ?_
    rintro e w' ⟨rfl, hb⟩
    go_wp2_with fail
    go_ret
    exact ⟨rfl, hb⟩
  obtain ⟨A, c, rfl⟩ : ∃ A c, v = .slice A ps.length c := by
    rcases hown.2 with ⟨rfl, hn⟩ | ⟨g, cap, cur, rfl, _⟩
    · exact ⟨_, _, by rw [hn]⟩
    · exact ⟨_, _, rfl⟩
  have HC := keep hC
  have hd : decide ((ps.length : Int) ≤ 64) = true := by simp; omega
  clear hC H hown hok hN
  go_enter Try.func38, Try.ntmps38
  go_wp2_with fail
  refine HC.out.mono ?_
  rintro e w' ⟨rfl, hb⟩
  go_wp2_with fail
  go_ret
  exact ⟨rfl, hb⟩


theorem fin_negz : fin .f32 2147483648 = true := by decide +kernel
theorem gtr_mass (m : Int) (h1 : 1 ≤ m) (h2 : m ≤ 8) : (FloatKind.f32.format.order (wd single 2 m) 0 == some .gt) = true := by
  have e := order_wd (f := single) fit_single (k := 2) (a := m) (b := 0) (by decide) (by show m.natAbs < 16777216; omega) (by decide)
  rw [wd_zero] at e
  rw [show FloatKind.f32.format.order (wd single 2 m) 0 = single.order (wd single 2 m) 0 from rfl, e]
  have : compare m 0 = .gt := by rw [Int.compare_eq_gt]; omega
  rw [this]; rfl
def GP.pd (p : GP) : PD := ⟨wd single 3 p.x, wd single 3 p.y, wd single 3 p.u, wd single 3 p.v, wd single 1 p.q, wd single 2 p.m⟩
theorem GP.pd_ok (p : GP) (h : p.ok) : p.pd.ok = true := by
  obtain ⟨h1, h2, h3, h4, h5, h6⟩ := h
  unfold PD.ok validP finC GP.pd
  simp only
  rw [fin_wd 3 p.x (by omega) (by omega), fin_wd 3 p.y (by omega) (by omega), fin_wd 3 p.u (by omega) (by omega), fin_wd 3 p.v (by omega) (by omega), fin_wd 1 p.q (by omega) (by omega), fin_wd 2 p.m (by omega) (by omega), gtr_mass p.m (by omega) (by omega)]
  rfl
theorem GP.all_ok (ps : List GP) (h : ∀ p ∈ ps, p.ok) : (ps.map GP.pd).all PD.ok = true := by
  rw [List.all_map]
  exact List.all_eq_true.2 fun p hp => GP.pd_ok p (h p hp)
end Go.Proofs.Ytdonmboidpppmaa
