/- Contracts: a text cut at a blank; what the program recovers of a journal. -/
import Derived.Test.YtldnldgndjbhfaaDoorTv
namespace Go.Proofs.YtldnldgndjbhfaaDoor
open Go.RowKit Go.Sort Go.Shelf
set_option linter.unusedSimpArgs false
set_option linter.unusedVariables false
attribute [local go_sem] Oper.semAt_some

def cutV (l : List UInt8) : Value := if fi l < l.length then .tuple #[.string (tx (l.take (fi l))), .string (tx (l.drop (fi l + 1))), .bool true] else .tuple #[.string (tx l), .string ⟨#[]⟩, .bool false]

set_option maxHeartbeats 1000000 in
theorem sCut_any (l : List UInt8) (w : World) (hl : l.length ≤ 100000) : Calls Tryd.prog 53 #[.string (tx l), .string ⟨#[32]⟩] w fun e w' => e = .returned (cutV l) ∧ ∃ m, w' = w.drewN m := by
  have IX : ∀ w, Calls Tryd.prog 48 #[.string (tx l), .string ⟨#[32]⟩] w fun e w' => e = .returned (.int .i64 (if fi l < l.length then (fi l : Int) else -1)) ∧ w' = w := fun w => by
    have h := Tryd.stringslite_Index_one (tx l) 32 w
    rw [tx_bytes, index_fi] at h
    exact h
  have IX := keep IX
  have TS := tx_size l
  unfold cutV
  by_cases h : fi l < l.length
  · rw [if_pos h] at IX ⊢
    have EXa := keep (show (tx l).extract 0 (fi l) = tx (l.take (fi l)) by rw [tx_piece, tx_bytes, List.drop_zero, Nat.sub_zero])
    have EXb := keep (show (tx l).extract (fi l + 1) l.length = tx (l.drop (fi l + 1)) by rw [tx_piece, tx_bytes, List.take_of_length_le (by rw [List.length_drop]; omega)])
    have hI : (fi l : Int) ≤ (l.length : Int) := by omega
    have hI2 : (fi l : Int) + 1 ≤ (l.length : Int) := by omega
    have hz : (⟨#[32]⟩ : ByteArray).size = 1 := rfl
    generalize fi l = o at *
    have ow : IntKind.i64.wrap ((o : Int) + 1) = (o : Int) + 1 := IntWalk.i64_in _ ⟨by omega, by omega⟩
    go_enter Tryd.func53, Tryd.ntmps53
    go_wp2_with fail
    refine (IX.out _).mono ?_
    rintro e w1 ⟨rfl, hw1⟩
    have hw1 := hw1.symm
    subst hw1
    go_wp2_with fail
    go_quiet (fail)
    go_wp2_with fail
    go_ret3
    exact ⟨by rw [← EXa.out, ← EXb.out]; rfl, _, rfl⟩
  · rw [if_neg h] at IX ⊢
    go_enter Tryd.func53, Tryd.ntmps53
    go_wp2_with fail
    refine (IX.out _).mono ?_
    rintro e w1 ⟨rfl, hw1⟩
    have hw1 := hw1.symm
    subst hw1
    go_wp2_with fail
    go_ret3
    exact ⟨rfl, 0, rfl⟩

set_option maxHeartbeats 1000000 in
theorem Cut_any (l : List UInt8) (w : World) (hl : l.length ≤ 100000) : Calls Tryd.prog 34 #[.string (tx l), .string ⟨#[32]⟩] w fun e w' => e = .returned (cutV l) ∧ ∃ m, w' = w.drewN m := by
  have SC := keep (fun w => sCut_any l w hl)
  obtain ⟨a, b, c, hv⟩ : ∃ a b c, cutV l = .tuple #[.string a, .string b, .bool c] := by
    unfold cutV
    split
    · exact ⟨_, _, _, rfl⟩
    · exact ⟨_, _, _, rfl⟩
  rw [hv] at SC ⊢
  clear hv
  go_enter Tryd.func34, Tryd.ntmps34
  go_wp2_with fail
  refine (SC.out _).mono ?_
  rintro e w1 ⟨rfl, m, hw1⟩
  have hw1 := hw1.symm
  subst hw1
  go_wp2_with fail
  go_ret3
  exact ⟨rfl, m, rfl⟩

/-- What the variables hold: the lines so far, their bytes, the check number. -/
def RS (b H : Nat) (w0 : World) (c : Int) (dn : List (List UInt8)) (n : Nat) (W : World) : Prop :=
  ∃ v, Boxed W b 24 v ∧ W.ownsRow H 9 1 v dn.length (sv (dn.map tx)) ∧ Boxed W (b + 1) 3 (.int .i64 (n : Int)) ∧ Boxed W (b + 1 + 1) 2 (.int .i64 c) ∧ Below b w0 W ∧ H ≤ W.heap.size
theorem RS.bears {b H Bs : Nat} {w0 : World} {c : Int} {dn : List (List UInt8)} {n : Nat} {W W' : World} {row : Option Nat} (h : RS b H w0 c dn n W) (hg : W.grownBy W' row) (hr : ∀ r, row = some r → r = Bs ∨ (H ≤ r ∧ ∃ o : Obj, W.heap[r]? = some o ∧ o.isCells = false)) (hBs : Bs = b + 1 + 1 + 1) (hH : H = b + 1 + 1 + 1 + 1) : RS b H w0 c dn n W' := by
  obtain ⟨v, h1, h2, h3, h4, h5, h6⟩ := h
  have ne : ∀ k, k < Bs → some k ≠ row := fun k hk e => by
    rcases hr k e.symm with h | ⟨h, _⟩ <;> omega
  refine ⟨v, h1.kept hg (ne _ (by omega)), h2.kept hg ?_, h3.kept hg (ne _ (by omega)), h4.kept hg (ne _ (by omega)), h5.grown hg (by have := h4.lt; omega) (fun k e => by rcases hr k e with h | ⟨h, _⟩ <;> omega), Nat.le_trans h6 hg.size⟩
  rcases h2.2 with ⟨rfl, _⟩ | ⟨g, cap, cur, rfl, hgH, hgb, _⟩
  · exact .inl rfl
  · refine .inr fun e' => ?_
    rcases hr g (by simpa [Value.ownBlock] using e'.symm) with h | ⟨_, o, ho, hc⟩
    · omega
    · rw [hgb] at ho; cases ho; cases hc

theorem own_ne {W : World} {H e size k : Nat} {v : Value} {xs : List Value} (hrow : W.ownsRow H e size v k xs) {B : Nat} (h : B < H) : some B ≠ v.ownBlock := by
  rcases hrow.2 with ⟨rfl, _⟩ | ⟨g, cap, cur, rfl, hg, _⟩
  · simp [Value.ownBlock]
  · intro e'
    obtain rfl : B = g := by simpa [Value.ownBlock] using e'
    omega
theorem gbB {W W' : World} (hb : Below W.heap.size W W') : W.grownBy W' none := ⟨hb.os, hb.tape, hb.output, hb.size, fun k hk _ => hb.block k hk⟩

/-- A line is taken: the three variables' boxes are written anew. -/
theorem RS.step {b H Bs : Nat} {w0 W3 w5 : World} {c c' : Int} {dn : List (List UInt8)} {d : List UInt8} {n n' : Nat} {v v' : Value} {tmp : Obj}
    (hBs : Bs = b + 1 + 1 + 1) (hH : H = b + 1 + 1 + 1 + 1)
    (r1 : Boxed W3 b 24 v) (r2 : W3.ownsRow H 9 1 v dn.length (sv (dn.map tx))) (r3 : Boxed W3 (b + 1) 3 (.int .i64 (n : Int))) (r4 : Boxed W3 (b + 1 + 1) 2 (.int .i64 c)) (r5 : Below b w0 W3) (r6 : H ≤ W3.heap.size)
    (hown : w5.ownsRow H 9 1 v' (dn.length + 1) (sv (dn.map tx) ++ [.string (tx d)])) (hgrow : (W3.alloc tmp).grownBy w5 v.ownBlock) :
    (Boxed w5 b 24 v ∧ Boxed w5 (b + 1) 3 (.int .i64 (n : Int)) ∧ Boxed w5 (b + 1 + 1) 2 (.int .i64 c)) ∧
    RS b H w0 c' (dn ++ [d]) n' (((w5.setCell ⟨b, 0, none⟩ v').setCell ⟨b + 1 + 1, 0, none⟩ (.int .i64 c')).setCell ⟨b + 1, 0, none⟩ (.int .i64 (n' : Int))) ∧
    KeepsFrom H W3 (((w5.setCell ⟨b, 0, none⟩ v').setCell ⟨b + 1 + 1, 0, none⟩ (.int .i64 c')).setCell ⟨b + 1, 0, none⟩ (.int .i64 (n' : Int))) ∧
    Still Bs W3 (((w5.setCell ⟨b, 0, none⟩ v').setCell ⟨b + 1 + 1, 0, none⟩ (.int .i64 c')).setCell ⟨b + 1, 0, none⟩ (.int .i64 (n' : Int))) := by
  have e1 : Boxed w5 b 24 v := (r1.alloc tmp).kept hgrow (own_ne r2 (by omega))
  have e3 : Boxed w5 (b + 1) 3 (.int .i64 (n : Int)) := (r3.alloc tmp).kept hgrow (own_ne r2 (by omega))
  have e4 : Boxed w5 (b + 1 + 1) 2 (.int .i64 c) := (r4.alloc tmp).kept hgrow (own_ne r2 (by omega))
  have g1 := grownBy_setCell' w5 b v'
  have g2 := grownBy_setCell' (w5.setCell ⟨b, 0, none⟩ v') (b + 1 + 1) (.int .i64 c')
  have g3 := grownBy_setCell' ((w5.setCell ⟨b, 0, none⟩ v').setCell ⟨b + 1 + 1, 0, none⟩ (.int .i64 c')) (b + 1) (.int .i64 (n' : Int))
  have ne : ∀ x y : Nat, x ≠ y → some x ≠ some y := fun x y h e => h (Option.some.inj e)
  have hk : KeepsOthers W3 w5 := (KeepsOthers.alloc W3 tmp).trans (KeepsOthers.of_grownBy hgrow fun j o ej hj => by
    rcases (r2.alloc tmp).2 with ⟨rfl, _⟩ | ⟨g, cap, cur, rfl, _, hgb, _⟩
    · simp [Value.ownBlock] at ej
    · obtain rfl : g = j := by simpa [Value.ownBlock] using ej
      rw [hgb] at hj; cases hj; rfl)
  have st : Still Bs W3 w5 := by
    have h1 := hgrow.block Bs (by simp; omega) (own_ne r2 (by omega))
    exact h1.trans (Below.heap_alloc W3 tmp Bs (by omega))
  have bb : Below b W3 w5 := ((Below.refl b W3).alloc (by omega) tmp).grown hgrow (by simp; omega) (fun k ej => by
    rcases r2.2 with ⟨rfl, _⟩ | ⟨g, cap, cur, rfl, hb, _, _⟩
    · simp [Value.ownBlock] at ej
    · obtain rfl : g = k := by simpa [Value.ownBlock] using ej
      omega)
  refine ⟨⟨e1, e3, e4⟩, ⟨v', ?_, ?_, ?_, ?_, ?_, ?_⟩, ?_, ?_⟩
  · exact ((e1.set v').kept g2 (ne _ _ (by omega))).kept g3 (ne _ _ (by omega))
  · rw [List.length_append, sv_snoc]
    exact ((hown.kept g1 (.inr (own_ne hown (by omega)).symm)).kept g2 (.inr (own_ne hown (by omega)).symm)).kept g3 (.inr (own_ne hown (by omega)).symm)
  · exact Boxed.set _ ((e3.kept g1 (ne _ _ (by omega))).kept g2 (ne _ _ (by omega)))
  · exact (Boxed.set _ (e4.kept g1 (ne _ _ (by omega)))).kept g3 (ne _ _ (by omega))
  · exact (((r5.trans bb).setCell (p := ⟨b, 0, none⟩) (Nat.le_refl _) _).setCell (p := ⟨b + 1 + 1, 0, none⟩) (by show b ≤ b + 1 + 1; omega) _).setCell (p := ⟨b + 1, 0, none⟩) (by show b ≤ b + 1; omega) _
  · have := hgrow.size
    have := g1.size
    have := g2.size
    have := g3.size
    simp at *
    omega
  · exact (((hk.from H).trans (KeepsFrom.of_grownBy g1 (fun j e => by cases e; omega))).trans (KeepsFrom.of_grownBy g2 (fun j e => by cases e; omega))).trans (KeepsFrom.of_grownBy g3 (fun j e => by cases e; omega))
  · have hs : Bs < w5.heap.size := by have := hk.size; omega
    have h1 := g1.block Bs hs (ne _ _ (by omega))
    have h2 := g2.block Bs (by have := g1.size; omega) (ne _ _ (by omega))
    have h3 := g3.block Bs (by have := g1.size; have := g2.size; omega) (ne _ _ (by omega))
    exact h3.trans (h2.trans (h1.trans st))

def Irec (b H : Nat) (w0 : World) (pre : List Ln) (W : World) : Prop :=
  ∃ (c : Int) (dn : List (List UInt8)) (n : Nat), (0 ≤ c ∧ c ≤ 65002) ∧ dn.length ≤ pre.length ∧ n ≤ 12000 * pre.length ∧ (∀ rest, irun 0 (pre.map Subtype.val ++ rest) = (dn ++ (irun c rest).1, n + (irun c rest).2)) ∧ RS b H w0 c dn n W
def Xrec (b H : Nat) (w0 : World) (cd : Code) (pre : List Ln) (W : World) : Prop :=
  cd = .exit 0 ∧ ∃ (c : Int) (dn : List (List UInt8)) (n : Nat), (∀ rest, irun 0 (pre.map Subtype.val ++ rest) = (dn, n)) ∧ RS b H w0 c dn n W
theorem KeepsFrom.of_below {B : Nat} {W W' : World} (h : Below W.heap.size W W') : KeepsFrom B W W' := ⟨h.size, fun k o _ hk _ => (h.block k (Array.getElem?_eq_some_iff.1 hk).1).trans hk⟩

set_option maxRecDepth 100000 in
set_option maxHeartbeats 4000000 in
theorem recovered_any (t : List UInt8) (w : World) (ht : t.length ≤ 12000) (htab : P10 w) :
    Calls Tryd.prog 17 #[.string (tx t)] w fun e w' => ∃ (A : Option Addr) (c : Nat), e = .returned (.tuple #[.slice A (irun 0 (ends (parts 10 [] t))).1.length c, .int .i64 ((irun 0 (ends (parts 10 [] t))).2 : Int)]) ∧ w'.ownsRow w.heap.size 9 1 (.slice A (irun 0 (ends (parts 10 [] t))).1.length c) (irun 0 (ends (parts 10 [] t))).1.length (sv ((irun 0 (ends (parts 10 [] t))).1.map tx)) ∧ Below w.heap.size w w' := by
  refine (callsIn_wide (n := 5)).1 ?_
  have LN : ∀ w, Calls Tryd.prog 33 #[.string (tx t)] w fun e w' => e = .returned (.func (.func 51) #[] #[.pointer (some ⟨w.heap.size, 0, none⟩)]) ∧ w' = w.alloc (.cells #[.string (tx t)] 9) := fun w => by
    go_enter Tryd.func33, Tryd.ntmps33
    go_wp2_with fail
    go_ret
    exact ⟨rfl, rfl⟩
  refine callsIn_of_wp_marks Tryd.func17 rfl trivial ?_ rfl
  simp only [Tryd.ntmps17, List.size_toArray, List.length_cons, List.length_nil, Nat.reduceAdd, Nat.reduceSub, Array.replicate_succ, Array.replicate_zero, List.push_toArray, List.append_toArray, List.nil_append, List.cons_append]
  gi_wp2_with fail
  refine ⟨trivial, CallsIn.mono (callsIn_wide.2 (LN _)) ?_⟩
  rintro e w1 ⟨rfl, rfl⟩
  gi_wp2_with fail
  have hsz : ((((w.alloc (.cells #[.slice none 0 0] 24)).alloc (.cells #[.int .i64 0] 3)).alloc (.cells #[.int .i64 0] 2)).alloc (.cells #[.string (tx t)] 9)).heap.size = w.heap.size + 1 + 1 + 1 + 1 := by simp
  have b1 : Boxed ((((w.alloc (.cells #[.slice none 0 0] 24)).alloc (.cells #[.int .i64 0] 3)).alloc (.cells #[.int .i64 0] 2)).alloc (.cells #[.string (tx t)] 9)) w.heap.size 24 (.slice none 0 0) := (((Boxed.new w _ _).alloc _).alloc _).alloc _
  have b2 : Boxed ((((w.alloc (.cells #[.slice none 0 0] 24)).alloc (.cells #[.int .i64 0] 3)).alloc (.cells #[.int .i64 0] 2)).alloc (.cells #[.string (tx t)] 9)) (w.heap.size + 1) 3 (.int .i64 0) := by
    have h := ((Boxed.new (w.alloc (.cells #[.slice none 0 0] 24)) 3 (.int .i64 0)).alloc (.cells #[.int .i64 0] 2)).alloc (.cells #[.string (tx t)] 9)
    rwa [World.size_alloc] at h
  have b3 : Boxed ((((w.alloc (.cells #[.slice none 0 0] 24)).alloc (.cells #[.int .i64 0] 3)).alloc (.cells #[.int .i64 0] 2)).alloc (.cells #[.string (tx t)] 9)) (w.heap.size + 1 + 1) 2 (.int .i64 0) := by
    have h := (Boxed.new ((w.alloc (.cells #[.slice none 0 0] 24)).alloc (.cells #[.int .i64 0] 3)) 2 (.int .i64 0)).alloc (.cells #[.string (tx t)] 9)
    rwa [World.size_alloc, World.size_alloc] at h
  have b4 : Boxed ((((w.alloc (.cells #[.slice none 0 0] 24)).alloc (.cells #[.int .i64 0] 3)).alloc (.cells #[.int .i64 0] 2)).alloc (.cells #[.string (tx t)] 9)) (w.heap.size + 1 + 1 + 1) 9 (.string (tx t)) := by
    have h := Boxed.new (((w.alloc (.cells #[.slice none 0 0] 24)).alloc (.cells #[.int .i64 0] 3)).alloc (.cells #[.int .i64 0] 2)) 9 (.string (tx t))
    rwa [World.size_alloc, World.size_alloc, World.size_alloc] at h
  have hB0 : Below w.heap.size w ((((w.alloc (.cells #[.slice none 0 0] 24)).alloc (.cells #[.int .i64 0] 3)).alloc (.cells #[.int .i64 0] 2)).alloc (.cells #[.string (tx t)] 9)) := by go_grown
  generalize (((w.alloc (.cells #[.slice none 0 0] 24)).alloc (.cells #[.int .i64 0] 3)).alloc (.cells #[.int .i64 0] 2)).alloc (.cells #[.string (tx t)] 9) = w4 at *
  obtain ⟨i0, hi, hz0, hz1, hz2⟩ := info_parts infoString
  have GV := lines_gives 4 (by omega) (w.heap.size + 1 + 1 + 1) t ht w4 b4
  have rs0 : RS w.heap.size w4.heap.size w 0 [] 0 w4 := ⟨_, b1, World.ownsRow_nil _ _ _ _, b2, b3, hB0, Nat.le_refl _⟩
  clear b1 b2 b3 b4
  refine range_gives (F := Fence.wide) (n := 5) rfl (by omega) (gf := 51) (lb := #[.pointer (some ⟨w.heap.size + 1 + 1 + 1, 0, none⟩)]) rfl trivial (enters_of Tryd.func51 (by kernel_rfl) rfl) GV (by omega) (fun _ => rfl) (Irec w.heap.size w4.heap.size w) (Xrec w.heap.size w4.heap.size w)
    (fun s A B row h hAB hrow => by
      obtain ⟨c, dn, n, h1, h2, h3, h4, h5⟩ := h
      exact ⟨c, dn, n, h1, h2, h3, h4, h5.bears hAB hrow rfl hsz⟩)
    (fun cd s A B row h hAB hrow => by
      obtain ⟨h0, c, dn, n, h4, h5⟩ := h
      exact ⟨h0, c, dn, n, h4, h5.bears hAB hrow rfl hsz⟩)
    ⟨0, [], 0, ⟨by omega, by omega⟩, by simp, by simp, fun rest => by simp, rs0⟩
    (fun x => { tmps := #[.string (tx t), undef, .slice none 0 0, .int .i64 0, .pointer (some ⟨w.heap.size, 0, none⟩), .pointer (some ⟨w.heap.size + 1, 0, none⟩), .pointer (some ⟨w.heap.size + 1 + 1, 0, none⟩), .string (tx x.1), undef, undef, undef, undef, undef, .string (tx t), .func (.func 51) #[] #[.pointer (some ⟨w.heap.size + 1 + 1 + 1, 0, none⟩)], .string (tx x.1), undef, undef, undef, undef, undef, undef, undef, undef, undef, undef, undef, undef, undef, undef, undef, undef, undef, undef, undef, undef, undef, undef, undef, undef, undef, undef, undef, undef, undef, undef, undef], defers := [] }) ?assign ?body ?done ?stop
  case assign =>
    intro l x W K hK
    unfold encL
    gi_wp2
    exact hK
  case body =>
    rintro l pre x W ⟨c, dn, n, ⟨hc0, hc1⟩, hdl, hnl, hrun, hrs⟩ hlt
    obtain ⟨x, hx⟩ := x
    have TS := tx_size x
    have hTL : (tx x).toList = x := by rw [Lib.toList_data, tx_bytes]
    have TR : ∀ w, Calls Tryd.prog 35 #[.string (tx x), .string ⟨#[10]⟩] w fun e w' => e = .returned (.string (tx (trim x))) ∧ w' = w := fun w => by
      have h := Tryd.strings_TrimSuffix (tx x) ⟨#[10]⟩ w (by omega)
      rw [tx_bytes] at h
      exact h
    have TR := keep TR
    have htl : (trim x).length ≤ 12000 := by
      unfold trim Lib.trimSuffix
      split
      · rw [List.length_take]; omega
      · exact hx
    have CU := keep (fun w => Cut_any (trim x) w (by omega))
    have RUN := keep hrun
    obtain ⟨v, r1, r2, r3, r4, r5, r6⟩ := id hrs
    have RSK := keep hrs
    have c2 := r3.cell
    have c3 := r4.cell
    clear hrun hrs
    unfold cutV at CU
    gi_wp2_with fail
    refine ⟨trivial, CallsIn.mono (CallsIn.inRound l (callsIn_wide.2 (TR.out _))) ?_⟩
    rintro e w1 ⟨rfl, hw1⟩
    have hw1 := hw1.symm
    subst hw1
    gi_wp2_with fail
    by_cases hfi : fi (trim x) < (trim x).length
    · rw [if_pos hfi] at CU
      refine ⟨trivial, CallsIn.mono (CallsIn.inRound l (callsIn_wide.2 (CU.out _))) ?_⟩
      rintro e w2 ⟨rfl, m2, hw2⟩
      subst hw2
      have hdl2 : ((trim x).drop (fi (trim x) + 1)).length ≤ 12000 := by rw [List.length_drop]; omega
      have JL := keep (fun w hw => journalLine_any c (tx ((trim x).drop (fi (trim x) + 1))) w (by rw [tx_size]; omega) hc0 hc1 hw)
      rw [tx_bytes] at JL
      have P10W : P10 (W.drewN m2) := pow10_stays htab (r5.trans (belowD _ _ _)) (Nat.le_refl _)
      have OKT := keep (show okT c x = (jl c ((trim x).drop (fi (trim x) + 1)) == x) by unfold okT; rw [decide_eq_true hfi, Bool.true_and])
      have CKB := ck_bound c ((trim x).drop (fi (trim x) + 1)) hc0 hc1
      have YES := keep (fun (h : okT c x = true) r => irun_yes (n := c) (x := x) (r := r) h)
      have NO := keep (fun (h : okT c x = false) r => irun_no (n := c) (x := x) (r := r) h)
      generalize (trim x).drop (fi (trim x) + 1) = d at *
      generalize (trim x).take (fi (trim x)) = d0 at *
      clear hfi TR CU htl
      gi_wp2_with fail
      refine ⟨trivial, CallsIn.mono (CallsIn.inRound l (callsIn_wide.2 (JL.out _ P10W))) ?_⟩
      rintro e w3 ⟨rfl, hb3⟩
      have BW : Below W.heap.size W w3 := (belowD _ W m2).trans hb3
      have HX : ∀ rest, (pre ++ [(⟨x, hx⟩ : Ln)]).map Subtype.val ++ rest = pre.map Subtype.val ++ (x :: rest) := fun rest => by simp
      have HX := keep HX
      have rs3 : RS w.heap.size w4.heap.size w c dn n w3 := RSK.out.bears (gbB BW) (fun r e => by cases e) rfl hsz
      have RS3 := keep rs3
      have STL : Still (w.heap.size + 1 + 1 + 1) W w3 := BW.block _ (by omega)
      have KB : KeepsFrom w4.heap.size W w3 := KeepsFrom.of_below BW
      have KB := keep KB
      have STL := keep STL
      obtain ⟨v3, q1, q2, q3, q4, q5, q6⟩ := rs3
      have d1 := q1.cell
      have d2 := q1.frozen
      clear c2 c3 r1 r2 r3 r4 r5 r6 P10W JL hb3 BW RSK
      by_cases hg : jl c d = x
      · have hg2 : (jl c d == x) = true := by rw [hg]; simp
        have hok : okT c x = true := by rw [OKT.out, hg2]
        have RUN2 := keep (fun rest => (RUN.out (x :: rest)).trans (by rw [YES.out hok rest]))
        clear hok OKT YES NO RUN
        have hdn3 : dn.length ≤ 12001 := by omega
        have hn3 : n ≤ 12000 * 12001 := Nat.le_trans hnl (Nat.mul_le_mul_left 12000 (by omega))
        have wn : IntKind.i64.wrap ((n : Int) + (x.length : Int)) = ((n + x.length : Nat) : Int) := by
          rw [IntWalk.i64_in _ ⟨by omega, by omega⟩]; omega
        have hx2 : n + x.length ≤ 12000 * (pre ++ [(⟨x, hx⟩ : Ln)]).length := by
          rw [List.length_append]
          show n + x.length ≤ 12000 * (pre.length + 1)
          omega
        have HN := keep hx2
        have CB := keep CKB
        generalize ck c d = c' at *
        clear hx2 CKB hnl hn3
        gi_wp2_with (gi_at_builtin; refine wpListIn_append_own _ rfl _ _ 24 rfl w4.heap.size 9 i0 _ 1 16 Tryd.underlying24 hi hz0 hz1 hz2 rfl (by decide) _ _ _ rfl (q2.alloc _) ⟨w3.heap.size, 0, none⟩ 1 1 [.string (tx d)] rfl rfl new_cell (by simp [Value.oneCell']) (by unfold maxLen; omega) (by omega) (by simp; omega) ?_; intro v' w5 hown' hgrow _; obtain ⟨⟨z1, z3, z4⟩, z5, z6, z7⟩ := RS.step (c' := c') (n' := n + x.length) rfl hsz q1 q2 q3 q4 q5 q6 hown' hgrow; obtain ⟨g', cap', rfl⟩ := ownsRow_succ hown'; have f1 := z1.frozen; have f1c := z1.cell; have f3 := z3.frozen; have f3c := z3.cell; have f4 := z4.frozen; have f4c := z4.cell)
        refine ⟨KB.out.trans z6, z7.trans STL.out, c', dn ++ [d], n + x.length, CB.out, by rw [List.length_append, List.length_append]; exact Nat.add_le_add_right hdl 1, HN.out, fun rest => ?_, z5⟩
        rw [HX.out]
        exact (RUN2.out rest).trans (by simp [Nat.add_assoc])
      · have hg2 : (jl c d == x) = false := by rw [beq_eq_false_iff_ne]; exact hg
        have hok : okT c x = false := by rw [OKT.out, hg2]
        have RUN2 := keep (fun rest => (RUN.out (x :: rest)).trans (by rw [NO.out hok rest]))
        clear hok OKT YES NO RUN
        gi_wp2_with fail
        refine ⟨KB.out, rfl, c, dn, n, fun rest => ?_, RS3.out⟩
        rw [HX.out]
        exact (RUN2.out rest).trans (by simp)
    · rw [if_neg hfi] at CU
      refine ⟨trivial, CallsIn.mono (CallsIn.inRound l (callsIn_wide.2 (CU.out _))) ?_⟩
      rintro e w2 ⟨rfl, m2, hw2⟩
      subst hw2
      have JL := keep (fun w hw => journalLine_any c ⟨#[]⟩ w (by show 0 ≤ _; omega) hc0 hc1 hw)
      have P10W : P10 (W.drewN m2) := pow10_stays htab (r5.trans (belowD _ _ _)) (Nat.le_refl _)
      have NO := keep (show okT c x = false by unfold okT; rw [decide_eq_false hfi, Bool.false_and])
      clear hfi TR CU htl
      gi_wp2_with fail
      refine ⟨trivial, CallsIn.mono (CallsIn.inRound l (callsIn_wide.2 (JL.out _ P10W))) ?_⟩
      rintro e w3 ⟨rfl, hb3⟩
      have BW : Below W.heap.size W w3 := (belowD _ W m2).trans hb3
      have RS3 := keep (RSK.out.bears (gbB BW) (fun r e => by cases e) rfl hsz)
      have KB := keep (KeepsFrom.of_below (B := w4.heap.size) BW)
      have HX := keep (show ∀ rest, (pre ++ [(⟨x, hx⟩ : Ln)]).map Subtype.val ++ rest = pre.map Subtype.val ++ (x :: rest) from fun rest => by simp)
      clear c2 c3 r1 r2 r3 r4 r5 r6 P10W JL hb3 BW RSK
      gi_wp2_with fail
      refine ⟨KB.out, rfl, c, dn, n, fun rest => ?_, RS3.out⟩
      rw [HX.out]
      exact (RUN.out (x :: rest)).trans (by rw [irun_no NO.out]; simp)
  case done =>
    rintro D ys W hD hys ⟨c, dn, n, _, _, _, hrun, hrs⟩ hK
    obtain ⟨v, r1, r2, r3, r4, r5, r6⟩ := hrs
    have d1 := r1.cell
    have d3 := r3.cell
    have hR := keep (show irun 0 (ends (parts 10 [] t)) = (dn, n) by
      have h := hrun []
      rw [List.append_nil, hys] at h
      simpa [irun] using h)
    clear hrun
    gi_wp2_with fail
    gi_region
    gi_wp2_with fail
    have hKd : W.drew.heap[D]? = some (.deferred (some [])) := hK
    obtain ⟨A, cap, rfl⟩ : ∃ A cap, v = .slice A dn.length cap := by
      rcases r2.2 with ⟨rfl, h0⟩ | ⟨g, cap, cur, rfl, _⟩
      · exact ⟨none, 0, by rw [h0]⟩
      · exact ⟨_, _, rfl⟩
    have r2d : W.drew.ownsRow w.heap.size 9 1 (.slice A dn.length cap) dn.length (sv (dn.map tx)) := own_base (owns_below r2 (belowD _ W 1)) (by omega)
    have r5d : Below w.heap.size w W.drew := r5.trans (belowD _ W 1)
    refine ⟨by simp, .inl ⟨_, _, rfl, run_takeDeferred hKd, ?_⟩⟩
    refine ⟨_, results_tmp2 rfl _ _ _, A, cap, ?_, ?_, ?_⟩
    · rw [hR.out]; rfl
    · rw [hR.out]; exact ownsRow_putObj r2d _ hKd rfl
    · exact r5d.trans (belowK_b (w := w) (Nat.le_refl _) W.drew D _ _ (by omega) hKd rfl rfl)
  case stop =>
    rintro D cd pre W hD hpre ⟨rfl, c, dn, n, hrun, hrs⟩ hK
    obtain ⟨v, r1, r2, r3, r4, r5, r6⟩ := hrs
    have d1 := r1.cell
    have d3 := r3.cell
    have hR := keep (show irun 0 (ends (parts 10 [] t)) = (dn, n) by
      obtain ⟨rest, hrest⟩ := hpre
      rw [← hrest]
      exact hrun rest)
    clear hrun hpre
    gi_wp2_with fail
    gi_region
    gi_wp2_with fail
    have hKd : W.drew.heap[D]? = some (.deferred (some [])) := hK
    obtain ⟨A, cap, rfl⟩ : ∃ A cap, v = .slice A dn.length cap := by
      rcases r2.2 with ⟨rfl, h0⟩ | ⟨g, cap, cur, rfl, _⟩
      · exact ⟨none, 0, by rw [h0]⟩
      · exact ⟨_, _, rfl⟩
    have r2d : W.drew.ownsRow w.heap.size 9 1 (.slice A dn.length cap) dn.length (sv (dn.map tx)) := own_base (owns_below r2 (belowD _ W 1)) (by omega)
    have r5d : Below w.heap.size w W.drew := r5.trans (belowD _ W 1)
    refine ⟨by simp, .inl ⟨_, _, rfl, run_takeDeferred hKd, ?_⟩⟩
    refine ⟨_, results_tmp2 rfl _ _ _, A, cap, ?_, ?_, ?_⟩
    · rw [hR.out]; rfl
    · rw [hR.out]; exact ownsRow_putObj r2d _ hKd rfl
    · exact r5d.trans (belowK_b (w := w) (Nat.le_refl _) W.drew D _ _ (by omega) hKd rfl rfl)
end Go.Proofs.YtldnldgndjbhfaaDoor
