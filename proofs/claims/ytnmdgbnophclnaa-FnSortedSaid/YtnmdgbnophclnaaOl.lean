/- Contracts: the counts and the starts of all cells, the particles of a cell, the fullest cell, equal clouds. -/
import Derived.Test.YtnmdgbnophclnaaOk
namespace Go.Proofs.Ytnmdgbnophclnaa
open Go.RowKit Go.Sort Ieee
set_option linter.unusedSimpArgs false
set_option linter.unusedVariables false

def maxL (cs : List Nat) : Nat := cs.foldl Nat.max 0
theorem foldl_max_le (cs : List Nat) : ∀ a x : Nat, (x ≤ a ∨ x ∈ cs) → x ≤ cs.foldl Nat.max a := by
  induction cs with
  | nil =>
    intro a x h
    rcases h with h | h
    · exact h
    · cases h
  | cons c cs ih =>
    intro a x h
    rw [List.foldl_cons]
    refine ih _ _ ?_
    rcases h with h | h
    · exact .inl (Nat.le_trans h (Nat.le_max_left ..))
    · rcases List.mem_cons.1 h with rfl | h
      · exact .inl (Nat.le_max_right ..)
      · exact .inr h
theorem foldl_max_mem (cs : List Nat) : ∀ a : Nat, cs.foldl Nat.max a = a ∨ cs.foldl Nat.max a ∈ cs := by
  induction cs with
  | nil => intro a; exact .inl rfl
  | cons c cs ih =>
    intro a
    rw [List.foldl_cons]
    rcases ih (Nat.max a c) with h | h
    · rcases Nat.le_total a c with h2 | h2
      · exact .inr (by rw [h, show Nat.max a c = c from Nat.max_eq_right h2]; exact List.mem_cons_self ..)
      · exact .inl (by rw [h]; exact Nat.max_eq_left h2)
    · exact .inr (List.mem_cons_of_mem _ h)
theorem maxL_le (cs : List Nat) (x : Nat) (h : x ∈ cs) : x ≤ maxL cs := foldl_max_le cs 0 x (.inr h)
theorem maxL_mem (cs : List Nat) (h : cs ≠ []) : maxL cs ∈ cs := by
  rcases foldl_max_mem cs 0 with e | e
  · have e2 : maxL cs = 0 := e
    cases cs with
    | nil => exact absurd rfl h
    | cons c cs =>
      have := maxL_le (c :: cs) c (List.mem_cons_self ..)
      have e3 : c = maxL (c :: cs) := by omega
      rw [← e3]; exact List.mem_cons_self ..
  · exact e
theorem maxL_take (cs : List Nat) (i : Nat) (h : i < cs.length) : maxL (cs.take (i + 1)) = Nat.max (maxL (cs.take i)) cs[i] := by
  unfold maxL
  rw [List.take_succ_eq_append_getElem h, List.foldl_append]
  rfl

set_option maxHeartbeats 2000000 in
theorem MaxI_ok (cs : List Nat) (n g c : Nat) (e : cs.length = n) (hn : 0 < n) (hN : n ≤ 1000) (w : World) (hh : Has w g 2 (nCells cs)) :
    Calls Try.prog 54 #[.slice (some ⟨g, 0, none⟩) n c] w fun e w' => e = .returned (.int .i64 (maxL cs : Nat)) ∧ w' = w := by
  have HH := keep hh
  have c0 := (hh.cells 0).trans (nCells_at cs 0 (by omega))
  have h0 : maxL (cs.take 1) = cs[0] := by rw [maxL_take cs 0 (by omega)]; exact Nat.max_eq_right (Nat.zero_le _)
  clear hh
  go_enter Try.func54, Try.ntmps54
  go_wp2_with fail
  rw [← h0]
  clear h0 c0
  go_loopw [3, 4] (fun s t wr => ∃ i : Nat, 1 ≤ i ∧ i ≤ n ∧ s = .int .i64 ((maxL (cs.take i) : Nat) : Int) ∧ t = .int .i64 i ∧ wr = w) (fun _ t _ => n - (intOf t).toNat)
  case atStart => exact ⟨1, Nat.le_refl _, by omega, rfl, rfl, rfl⟩
  case round =>
    obtain ⟨i, hi1, hi, rfl, rfl, rfl⟩ := hrel
    by_cases hlt : i < n
    · have ci := (HH.out.cells i).trans (nCells_at cs i (by omega))
      have MT := maxL_take cs i (by omega)
      generalize cs[i]'(by omega) = x at *
      generalize maxL (cs.take i) = M at *
      have K := keep MT
      clear MT
      go_wp2_with fail
      go_roundw
      case rel => exact ⟨i + 1, by omega, by omega, by
        rw [K.out]
        congr 1
        change max (M : Int) (x : Int) = ((max M x : Nat) : Int)
        omega, by go_num, by trivial⟩
      case measure => simp [intOf]; omega
    · have e9 : cs.take i = cs := List.take_of_length_le (by omega)
      obtain rfl : i = n := by omega
      rw [e9]
      go_wp2_with fail
      go_ret
      exact ⟨rfl, rfl⟩

set_option maxHeartbeats 2000000 in
theorem IndexI_ok (cs : List Nat) (n g c x : Nat) (e : cs.length = n) (hx : x ∈ cs) (hN : n ≤ 1000) (w : World) (hh : Has w g 2 (nCells cs)) :
    Calls Try.prog 55 #[.slice (some ⟨g, 0, none⟩) n c, .int .i64 x] w fun e w' => (∃ j : Nat, e = .returned (.int .i64 j) ∧ cs[j]? = some x ∧ ∀ k, k < j → cs[k]? ≠ some x) ∧ w' = w := by
  have HH := keep hh
  have HX := keep hx
  clear hh hx
  go_enter Try.func55, Try.ntmps55
  go_wp2_with fail
  go_loopw [8] (fun t wr => ∃ i : Nat, i ≤ n ∧ t = .int .i64 i ∧ wr = w ∧ Kept (∀ k, k < i → cs[k]? ≠ some x)) (fun t _ => n - (intOf t).toNat)
  case atStart => exact ⟨0, by omega, rfl, rfl, keep (fun k hk => absurd hk (Nat.not_lt_zero _))⟩
  case round =>
    obtain ⟨i, hi, rfl, rfl, hK⟩ := hrel
    by_cases hlt : i < n
    · have ci := (HH.out.cells i).trans (nCells_at cs i (by omega))
      have EI := keep (List.getElem?_eq_getElem (show i < cs.length by omega))
      generalize cs[i]'(by omega) = y at *
      by_cases hxy : x = y
      · subst hxy
        go_wp2_with fail
        go_ret
        exact ⟨⟨i, rfl, EI.out, hK.out⟩, rfl⟩
      · have h1 : ¬ (x : Int) = (y : Int) := by omega
        have HXY := keep hxy
        clear hxy
        go_wp2_with fail
        go_roundw
        case rel => exact ⟨i + 1, by omega, by go_num, by trivial, keep (fun k hk => by
          by_cases e : k = i
          · subst e; rw [EI.out]; intro e; injection e with e; exact HXY.out e.symm
          · exact hK.out k (by omega))⟩
        case measure => simp [intOf]; omega
    · exfalso
      obtain ⟨j, hj, ej⟩ := List.getElem_of_mem HX.out
      exact hK.out j (by omega) (by rw [List.getElem?_eq_getElem hj, ej])

theorem cntL_length (W H : Nat) (ps : List QP) : (cntL W H ps).length = W * H := cntK_length _ _
theorem cntL_le (W H : Nat) (h : Sides W H) (ps : List QP) (hl : ps.length ≤ 6) (k : Nat) (hk : k < (cntL W H ps).length) : (cntL W H ps)[k] ≤ 6 := by
  unfold cntL at hk ⊢
  rw [cntK_at _ _ (fun x hx => by obtain ⟨p, _, rfl⟩ := List.mem_map.1 hx; exact cellN_lt W H h p) k hk]
  refine Nat.le_trans List.count_le_length ?_
  rw [List.length_map]; exact hl

set_option maxHeartbeats 4000000 in
set_option maxRecDepth 20000 in
theorem CountsOf_ok (W H : Nat) (ps : List QP) (m b : Nat) (h : CloudOk W H ps m b) (B : Nat) (v : Value) (w : World) (hown : RowQ w B v ps) :
    Calls Try.prog 11 #[cloudV W H v m b] w fun e w' => ∃ g, e = .returned (.tuple #[.slice (some ⟨g, 0, none⟩) (W * H) (W * H), .bool true]) ∧ Has w' g 2 (nCells (cntL W H ps)) ∧ Below w.heap.size w w' ∧ w.heap.size ≤ g := by
  have VC := keep (fun w h' => ValidCloud_ok W H ps m b h B v w h')
  have CE := keep (fun w h' => CountQ_ok W H h.sides B v ps w h' h.parts h.len)
  obtain ⟨A, c, rfl, _⟩ := qown_form hown
  have PP := Has.made w 29 #[.int .i64 W, .int .i64 H, .slice A ps.length c, .float .f32 m, .float .f32 b]
  have BB := (Below.refl w.heap.size w).alloc (Nat.le_refl _) (.cells #[.int .i64 W, .int .i64 H, .slice A ps.length c, .float .f32 m, .float .f32 b] 29)
  have HW := keep (owns_below hown BB)
  have P := keep PP
  have B0 := keep BB
  clear hown h PP BB
  unfold cloudV gridV at *
  go_enter Try.func11, Try.ntmps11
  go_wp2_with fail
  refine (VC.out _ HW.out).mono ?_
  rintro e w1 ⟨rfl, hb⟩
  have cg := (P.out.after hb).cells
  have B1 := keep (B0.out.trans (hb.mono B0.out.size))
  have H1 := keep (owns_below HW.out hb)
  clear hb VC HW P B0
  go_wp2_with fail
  refine (CE.out _ H1.out).mono ?_
  rintro e w2 ⟨g, rfl, hr, hb, hlg⟩
  have hlg2 : w.heap.size ≤ g := Nat.le_trans B1.out.size hlg
  have B2 := keep (B1.out.trans (hb.mono B1.out.size))
  have R2 := keep hr
  clear hr hb CE H1 cg
  go_wp2_with fail
  go_ret2
  exact ⟨_, rfl, R2.out, B2.out, hlg2⟩

/-- How many there are before each cell. -/
def startsL (cs : List Nat) : List Nat := (List.range cs.length).map fun i => (cs.take i).sum
theorem startsL_length (cs : List Nat) : (startsL cs).length = cs.length := by unfold startsL; rw [List.length_map, List.length_range]
theorem startsL_at (cs : List Nat) (i : Nat) (h : i < (startsL cs).length) : (startsL cs)[i] = (cs.take i).sum := by simp [startsL]
theorem sum_le_mul (l : List Nat) (M : Nat) (h : ∀ x ∈ l, x ≤ M) : l.sum ≤ M * l.length := by
  induction l with
  | nil => simp
  | cons a l ih =>
    have h1 := ih fun x hx => h x (List.mem_cons_of_mem _ hx)
    have h2 := h a (List.mem_cons_self ..)
    rw [List.sum_cons, List.length_cons, Nat.mul_succ]
    omega
def mixS (cs : List Nat) (i : Nat) : List Nat := (startsL cs).take i ++ cs.drop i
theorem mixS_length (cs : List Nat) (i : Nat) (h : i ≤ cs.length) : (mixS cs i).length = cs.length := by
  unfold mixS
  rw [List.length_append, List.length_take, List.length_drop, startsL_length]; omega
theorem mixS_get (cs : List Nat) (i : Nat) (h : i < cs.length) : (mixS cs i)[i]? = some cs[i] := by
  unfold mixS
  have hl : ((startsL cs).take i).length = i := by rw [List.length_take, startsL_length]; omega
  rw [List.getElem?_append_right (by omega), hl, Nat.sub_self, List.getElem?_drop, Nat.add_zero, List.getElem?_eq_getElem h]
theorem mixS_step (cs : List Nat) (i : Nat) (h : i < cs.length) : (mixS cs i).set i (cs.take i).sum = mixS cs (i + 1) := by
  unfold mixS
  have hs : i < (startsL cs).length := by rw [startsL_length]; exact h
  have hl : ((startsL cs).take i).length = i := by rw [List.length_take]; omega
  rw [List.set_append_right _ _ (by omega), hl, Nat.sub_self, List.drop_eq_getElem_cons h, List.set_cons_zero, List.take_succ_eq_append_getElem hs, startsL_at, List.append_assoc]
  rfl
theorem mixS_zero (cs : List Nat) : mixS cs 0 = cs := by unfold mixS; simp
theorem mixS_full (cs : List Nat) : mixS cs cs.length = startsL cs := by
  unfold mixS
  rw [List.drop_length, List.append_nil, List.take_of_length_le (by rw [startsL_length]; omega)]

set_option maxHeartbeats 4000000 in
set_option maxRecDepth 20000 in
theorem StartsOf_ok (W H : Nat) (ps : List QP) (m b : Nat) (h : CloudOk W H ps m b) (B : Nat) (v : Value) (w : World) (hown : RowQ w B v ps) :
    Calls Try.prog 12 #[cloudV W H v m b] w fun e w' => ∃ g, e = .returned (.tuple #[.slice (some ⟨g, 0, none⟩) (W * H) (W * H), .bool true]) ∧ Has w' g 2 (nCells (startsL (cntL W H ps))) ∧ Below w.heap.size w w' := by
  have CE := keep (fun w h' => CountsOf_ok W H ps m b h B v w h')
  have CL := cntL_length W H ps
  have CB := keep (cntL_le W H h.sides ps h.len)
  have SL := size_le W H h.sides
  obtain ⟨A, c, rfl, _⟩ := qown_form hown
  have BB := (Below.refl w.heap.size w).alloc (Nat.le_refl _) (.cells #[.int .i64 W, .int .i64 H, .slice A ps.length c, .float .f32 m, .float .f32 b] 29)
  have HW := keep (owns_below hown BB)
  have B0 := keep BB
  clear hown h BB
  unfold cloudV at *
  generalize cntL W H ps = cs at *
  generalize hn : W * H = n at *
  go_enter Try.func12, Try.ntmps12
  go_wp2_with fail
  refine (CE.out _ HW.out).mono ?_
  rintro e w1 ⟨g, rfl, hr, hb, hlg⟩
  have B1 := keep (B0.out.trans (hb.mono B0.out.size))
  have hlg2 : w.heap.size ≤ g := Nat.le_trans B0.out.size hlg
  rw [← mixS_zero cs] at hr
  have R1 := keep hr
  clear hr HW CE B0 hlg
  go_wp2_with fail
  go_loopw [16, 6] (fun s t wr => ∃ i : Nat, i ≤ n ∧ s = .int .i64 i ∧ t = .int .i64 (((cs.take i).sum : Nat) : Int) ∧ Kept (Has wr g 2 (nCells (mixS cs i))) ∧ Kept (Below w.heap.size w wr)) (fun s _ _ => n - (intOf s).toNat)
  case atStart => exact ⟨0, Nat.zero_le _, rfl, rfl, R1, B1⟩
  case round =>
    clear R1 B1
    obtain ⟨i, hi, rfl, rfl, hR, hb⟩ := hrel
    by_cases hlt : i < n
    · have hlc : i < cs.length := by omega
      have hlm : i < (mixS cs i).length := by rw [mixS_length cs i (by omega)]; exact hlc
      have ci := (hR.out.cells i).trans (nCells_at _ i hlm)
      have ei := mixS_get cs i hlc
      rw [List.getElem?_eq_getElem hlm] at ei
      injection ei with ei
      rw [ei] at ci
      have ui := hR.out.free i
      have ST := keep (mixS_step cs i hlc)
      have e1 : (cs.take (i + 1)).sum = (cs.take i).sum + cs[i] := by
        rw [List.take_succ_eq_append_getElem hlc, List.sum_append]
        simp
      have hbd := CB.out i hlc
      have hsb : (cs.take i).sum ≤ 6 * i := by
        have h6 := sum_le_mul (cs.take i) 6 (fun x hx => by
          obtain ⟨k, hk, rfl⟩ := List.getElem_of_mem (List.mem_of_mem_take hx)
          exact CB.out k hk)
        have := List.length_take_le i cs
        have : 6 * (cs.take i).length ≤ 6 * i := Nat.mul_le_mul_left 6 this
        omega
      generalize cs[i] = ci' at *
      generalize (cs.take i).sum = S at *
      have wz : IntKind.i64.wrap ((S : Int) + (ci' : Int)) = ((S + ci' : Nat) : Int) := by rw [IntWalk.i64_in _ ⟨by omega, by omega⟩]; omega
      have E1 := keep e1
      have R2 := keep (hR.out.written i (.int .i64 (S : Int)))
      rw [nCells_set, ST.out] at R2
      have B2 := keep (hb.out.setCell (p := ⟨g, i, none⟩) hlg2 (.int .i64 (S : Int)))
      clear e1 ei ST hR hb hbd
      go_wp2_with fail
      go_roundw
      case rel => exact ⟨i + 1, by omega, by go_num, by rw [E1.out, Int.natCast_add], R2, B2⟩
      case measure => simp [intOf]; omega
    · obtain rfl : i = n := by omega
      have hR2 := hR.out
      rw [show mixS cs i = startsL cs from by rw [← mixS_full cs, CL]] at hR2
      have R2 := keep hR2
      clear hR hR2
      go_wp2_with fail
      go_ret2
      exact ⟨_, rfl, R2.out, hb.out⟩

/-- The particles of a cell. -/
def inC (W H : Nat) (ps : List QP) (k : Nat) : List Nat := (List.range ps.length).filter fun i => keyOf W H ps i == k
def inTo (W H : Nat) (ps : List QP) (k i : Nat) : List Nat := (List.range i).filter fun i => keyOf W H ps i == k
theorem inTo_len (W H : Nat) (ps : List QP) (k i : Nat) : (inTo W H ps k i).length ≤ i := by
  have := List.length_filter_le (fun i => keyOf W H ps i == k) (List.range i)
  rwa [List.length_range] at this
theorem inTo_hit (W H : Nat) (ps : List QP) (k i : Nat) (h : keyOf W H ps i = k) : inTo W H ps k (i + 1) = inTo W H ps k i ++ [i] := by
  unfold inTo
  rw [List.range_succ, List.filter_append]
  simp [h]
theorem inTo_miss (W H : Nat) (ps : List QP) (k i : Nat) (h : keyOf W H ps i ≠ k) : inTo W H ps k (i + 1) = inTo W H ps k i := by
  unfold inTo
  rw [List.range_succ, List.filter_append]
  simp [h]
theorem keyOf_at (W H : Nat) (ps : List QP) (i : Nat) (h : i < ps.length) : keyOf W H ps i = cellN W H ps[i] := by
  unfold keyOf
  rw [List.getD_eq_getElem?_getD, List.getElem?_eq_getElem (by rw [List.length_map]; exact h), Option.getD_some, List.getElem_map]

set_option maxHeartbeats 4000000 in
set_option maxRecDepth 20000 in
theorem InCell_ok (W H : Nat) (ps : List QP) (m b : Nat) (h : CloudOk W H ps m b) (B : Nat) (v : Value) (k : Nat) (hk : k < W * H) (w : World) (hown : RowQ w B v ps) :
    Calls Try.prog 16 #[cloudV W H v m b, .int .i64 k] w fun e w' => ∃ v', e = .returned (.tuple #[v', .bool true]) ∧ RowN w' w.heap.size v' (inC W H ps k) ∧ Below w.heap.size w w' := by
  have VC := keep (fun w h' => ValidCloud_ok W H ps m b h B v w h')
  have CE := keep (fun w h' => cells_ok W H ps m b h B v w h')
  have SZ := keep (fun w => size_ok W H h.sides w)
  have SL := size_le W H h.sides
  have hl := h.len
  obtain ⟨A, c, rfl, _⟩ := qown_form hown
  obtain ⟨i0, hi0, hz0, hz1, hz2⟩ := info_parts infoI64
  have HI := keep hi0
  have HZ0 := keep hz0
  have HZ1 := keep hz1
  have HZ2 := keep hz2
  have PP := Has.made w 29 #[.int .i64 W, .int .i64 H, .slice A ps.length c, .float .f32 m, .float .f32 b]
  have BB := (Below.refl w.heap.size w).alloc (Nat.le_refl _) (.cells #[.int .i64 W, .int .i64 H, .slice A ps.length c, .float .f32 m, .float .f32 b] 29)
  have HW := keep (owns_below hown BB)
  have P := keep PP
  have B0 := keep BB
  have KL := keep (show (ps.map (cellN W H)).length = ps.length from List.length_map _)
  have KA := keep (fun i (hi : i < ps.length) => keyOf_at W H ps i hi)
  have WI := keep (fun n lo hi w => within_any n lo hi w)
  clear hown h PP BB hi0 hz0 hz1 hz2
  unfold cloudV gridV at *
  generalize hn : W * H = n at *
  have wz : IntKind.i64.wrap ((n : Int) - 1) = (n : Int) - 1 := IntWalk.i64_in _ ⟨by omega, by omega⟩
  have d1 : (decide ((0 : Int) ≤ (k : Int)) && decide ((k : Int) ≤ (n : Int) - 1)) = true := by
    rw [decide_eq_true (by omega), decide_eq_true (by omega)]; rfl
  go_enter Try.func16, Try.ntmps16
  go_wp2_with fail
  refine (VC.out _ HW.out).mono ?_
  rintro e w1 ⟨rfl, hb⟩
  have p1 := P.out.after hb
  have P1 := keep p1
  have cg := p1.cells
  have B1 := keep (B0.out.trans (hb.mono B0.out.size))
  have H1 := keep (owns_below HW.out hb)
  clear hb VC HW P B0 p1
  go_wp2_with fail
  refine (SZ.out _).mono ?_
  rintro e w2 ⟨rfl, hb⟩
  have P2 := keep (P1.out.after hb)
  have B2 := keep (B1.out.trans (hb.mono B1.out.size))
  have H2 := keep (owns_below H1.out hb)
  clear hb P1 B1 H1 cg SZ
  go_wp2_with fail
  refine (WI.out _ _ _ _).mono ?_
  rintro e w3 ⟨rfl, rfl⟩
  rw [d1]
  have cg := P2.out.cells
  clear d1 wz WI
  go_wp2_with fail
  refine (CE.out _ H2.out).mono ?_
  rintro e w4 ⟨v1, rfl, hr, hb⟩
  have B4 := keep (B2.out.trans (hb.mono B2.out.size))
  obtain ⟨A1, c1, rfl⟩ := own_slice hr
  unfold RowN at hr
  rw [KL.out] at hr ⊢
  have R4 := keep hr
  have RN := keep (World.ownsRow_nil w4 w4.heap.size 2 1)
  clear hr hb B2 H2 P2 CE cg
  go_wp2_with fail
  go_loopw [24, 6] (fun s t wr => ∃ (i : Nat) (D : Option Addr) (d : Nat), i ≤ ps.length ∧ s = .int .i64 i ∧ t = .slice D (inTo W H ps k i).length d ∧ Kept (wr.ownsRow w4.heap.size 2 1 (.slice D (inTo W H ps k i).length d) (inTo W H ps k i).length (nList (inTo W H ps k i))) ∧ Kept (Below w4.heap.size w4 wr)) (fun s _ _ => ps.length - (intOf s).toNat)
  case atStart => exact ⟨0, none, 0, Nat.zero_le _, rfl, rfl, RN, keep (Below.refl _ _)⟩
  case round =>
    clear RN
    obtain ⟨i, D, d, hi, rfl, rfl, hown, hb⟩ := hrel
    by_cases hlt : i < ps.length
    · have hil := inTo_len W H ps k i
      obtain ⟨g4, c4, e4, hg4, hg5⟩ := R4.out.form (by omega)
      injection e4 with e5 e6 e7
      subst e5
      subst e7
      clear e6
      have ci := (hb.out.cell (p := ⟨g4, i, none⟩) hg5).trans ((R4.out.cellAt i (by omega)).trans (show (nList (ps.map (cellN W H)))[i]? = some (.int .i64 (keyOf W H ps i : Nat)) by
        rw [KA.out i hlt]
        unfold nList
        rw [List.getElem?_map, List.getElem?_map, List.getElem?_eq_getElem hlt]; rfl))
      have hsz := hb.out.size
      have hsw := B4.out.size
      by_cases hkey : keyOf W H ps i = k
      · have IT := keep (inTo_hit W H ps k i hkey)
        rw [hkey] at ci
        generalize hL : inTo W H ps k i = L at *
        clear hkey hL
        go_wp2_with (at_builtin; go_loud (refine wpList_append_own_at _ rfl _ _ 31 rfl w4.heap.size 2 i0 _ 1 8 Try.underlying31 HI.out HZ0.out HZ1.out HZ2.out rfl (by decide) (.slice D L.length d) L.length _ rfl (hown.out.alloc _) ⟨wr.heap.size, 0, none⟩ 1 1 [.int .i64 (i : Int)] rfl rfl ?c1 ?c2 ?c3 ?c4 ?c5 ?_))
        case c2 => first | rfl | simp [Value.oneCell'] | (intro u hu; rw [List.mem_singleton.1 hu]; rfl)
        case c3 => unfold maxLen; omega
        case c4 => omega
        case c5 => first | omega | (simp only [World.size_alloc]; omega)
        · exact four_new' (Has.made wr 2 #[.int .i64 (i : Int)])
        intro v' w5 hown' hgrow _ _
        obtain ⟨g', cap', rfl, hB', hlt'⟩ := hown'.form (by omega)
        have hL := hown.out.lt
        have bX : Below w4.heap.size _ w5 := (Below.refl w4.heap.size _).grown hgrow (by simp only [World.size_alloc]; omega) (fun b e => (hL b e).1)
        have B6 := keep ((hb.out.alloc hb.out.size (.cells #[.int .i64 (i : Int)] 2)).trans bX)
        have OW := keep hown'
        clear hown' hgrow bX hL
        go_wp2_with fail
        go_roundw
        case rel => exact ⟨i + 1, _, _, by omega, by go_num, by rw [IT.out, List.length_append]; rfl, keep (by
            have e := OW.out
            rw [IT.out, nList_append, List.length_append]
            exact e), B6⟩
        case measure => simp [intOf]; omega
      · have IT := keep (inTo_miss W H ps k i hkey)
        generalize keyOf W H ps i = q at *
        have h1 : ¬ (q : Int) = (k : Int) := by omega
        clear hkey
        go_wp2_with fail
        go_roundw
        case rel => exact ⟨i + 1, D, d, by omega, by go_num, by rw [IT.out], by rw [IT.out]; exact hown, hb⟩
        case measure => simp [intOf]; omega
    · obtain rfl : i = ps.length := by omega
      go_wp2_with fail
      go_ret2
      exact ⟨_, rfl, own_base hown.out B4.out.size, B4.out.trans (hb.out.mono B4.out.size)⟩

set_option maxHeartbeats 4000000 in
set_option maxRecDepth 20000 in
theorem FullestCell_ok (W H : Nat) (ps : List QP) (m b : Nat) (h : CloudOk W H ps m b) (B : Nat) (v : Value) (w : World) (hown : RowQ w B v ps) :
    Calls Try.prog 14 #[cloudV W H v m b] w fun e w' => ∃ j : Nat, e = .returned (.tuple #[.int .i64 j, .int .i64 (maxL (cntL W H ps) : Nat), .bool true]) ∧ (cntL W H ps)[j]? = some (maxL (cntL W H ps)) ∧ (∀ k, k < j → (cntL W H ps)[k]? ≠ some (maxL (cntL W H ps))) ∧ Below w.heap.size w w' := by
  have CE := keep (fun w h' => CountsOf_ok W H ps m b h B v w h')
  have CL := cntL_length W H ps
  have SL := size_le W H h.sides
  have hne : cntL W H ps ≠ [] := by intro e; rw [e] at CL; simp at CL; omega
  have MX := keep (fun n g c e hn hN w hh => MaxI_ok (cntL W H ps) n g c e hn hN w hh)
  have IX := keep (fun n g c e hN w hh => IndexI_ok (cntL W H ps) n g c (maxL (cntL W H ps)) e (maxL_mem _ hne) hN w hh)
  obtain ⟨A, c, rfl, _⟩ := qown_form hown
  have BB := (Below.refl w.heap.size w).alloc (Nat.le_refl _) (.cells #[.int .i64 W, .int .i64 H, .slice A ps.length c, .float .f32 m, .float .f32 b] 29)
  have HW := keep (owns_below hown BB)
  have B0 := keep BB
  clear hown h BB hne
  unfold cloudV at *
  generalize cntL W H ps = cs at *
  generalize hn : W * H = n at *
  generalize maxL cs = M at *
  go_enter Try.func14, Try.ntmps14
  go_wp2_with fail
  refine (CE.out _ HW.out).mono ?_
  rintro e w1 ⟨g, rfl, hr, hb, _⟩
  have B1 := keep (B0.out.trans (hb.mono B0.out.size))
  have R1 := keep hr
  clear hr hb HW CE B0
  go_wp2_with fail
  refine (MX.out n g n CL (by omega) (by omega) _ R1.out).mono ?_
  rintro e w2 ⟨rfl, rfl⟩
  go_wp2_with fail
  refine (IX.out n g n CL (by omega) _ R1.out).mono ?_
  rintro e w3 ⟨⟨j, rfl, hj1, hj2⟩, rfl⟩
  have J1 := keep hj1
  have J2 := keep hj2
  clear hj1 hj2 MX IX
  go_wp2_with fail
  exact bodyPost_ret (by simp [results, Try.results14, go_sem]) rfl ⟨j, rfl, J1.out, J2.out, B1.out⟩

set_option maxHeartbeats 4000000 in
set_option maxRecDepth 20000 in
theorem SameCloud_ok (W H : Nat) (ps : List QP) (m b : Nat) (hq : ∀ p ∈ ps, p.ok) (hl : ps.length ≤ 6) (hm : Num m) (hbn : Num b) (B1 B2 : Nat) (v1 v2 : Value) (w : World) (h1 : RowQ w B1 v1 ps) (h2 : RowQ w B2 v2 ps) :
    Calls Try.prog 15 #[cloudV W H v1 m b, cloudV W H v2 m b] w fun e w' => e = .returned (.bool true) ∧ Below w.heap.size w w' := by
  have SP := keep (fun w h1 h2 => SameParticles_ok B1 B2 v1 v2 (ps.map QP.pd) w h1 h2 (fun p hp => by obtain ⟨q, hq', rfl⟩ := List.mem_map.1 hp; exact QP.num (hq q hq')) (by rw [List.length_map]; omega))
  have N1 := keep (fun w => SameNumber_num m hm w)
  have N2 := keep (fun w => SameNumber_num b hbn w)
  obtain ⟨A1, c1, rfl, _⟩ := qown_form h1
  obtain ⟨A2, c2, rfl, _⟩ := qown_form h2
  have PP := (Has.made w 29 #[.int .i64 W, .int .i64 H, .slice A1 ps.length c1, .float .f32 m, .float .f32 b]).beside (.cells #[.int .i64 W, .int .i64 H, .slice A2 ps.length c2, .float .f32 m, .float .f32 b] 29)
  have ZZ := Has.made (w.alloc (.cells #[.int .i64 W, .int .i64 H, .slice A1 ps.length c1, .float .f32 m, .float .f32 b] 29)) 29 #[.int .i64 W, .int .i64 H, .slice A2 ps.length c2, .float .f32 m, .float .f32 b]
  have BB := ((Below.refl w.heap.size w).alloc (Nat.le_refl _) (.cells #[.int .i64 W, .int .i64 H, .slice A1 ps.length c1, .float .f32 m, .float .f32 b] 29)).alloc (by simp only [World.size_alloc]; omega) (.cells #[.int .i64 W, .int .i64 H, .slice A2 ps.length c2, .float .f32 m, .float .f32 b] 29)
  rw [World.size_alloc] at ZZ
  have H1 := keep (owns_below h1 BB)
  have H2 := keep (owns_below h2 BB)
  have P := keep PP
  have Z := keep ZZ
  have B0 := keep BB
  clear h1 h2 PP ZZ BB hm hbn hq
  unfold cloudV at *
  go_enter Try.func15, Try.ntmps15
  go_wp2_with fail
  refine (SP.out _ (by rw [List.length_map]; exact H1.out) (by rw [List.length_map]; exact H2.out)).mono ?_
  rintro e w1 ⟨rfl, hb⟩
  have c1 := (P.out.after hb).cells
  have c2 := (Z.out.after hb).cells
  have B1 := keep (B0.out.trans (hb.mono B0.out.size))
  clear hb P Z B0 H1 H2 SP
  go_wp2_with fail
  refine (N1.out _).mono ?_
  rintro e w2 ⟨rfl, rfl⟩
  go_wp2_with fail
  refine (N2.out _).mono ?_
  rintro e w3 ⟨rfl, rfl⟩
  go_wp2_with fail
  go_ret
  exact ⟨rfl, B1.out⟩
end Go.Proofs.Ytnmdgbnophclnaa
