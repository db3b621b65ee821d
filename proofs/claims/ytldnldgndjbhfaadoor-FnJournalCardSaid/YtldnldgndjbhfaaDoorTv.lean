/- Contract: the lines of a text, by the library's iterator, which keeps what is left in a variable of its own. -/
import Derived.RangeFuncNested
import Derived.RangeFuncBound
import Derived.RangeFuncCalls
import Derived.RangeFuncLeaves
import Derived.Shelf.Abstract
import Derived.Shelf.RegionOpen
import Derived.OwnWalkIn
import Derived.TacticsInMore
import Derived.LoopNIn
import Derived.LoopIn
import Derived.RegionIn
import Derived.BigRegionIn
import Derived.Test.YtldnldgndjbhfaaDoorTr
import Derived.Test.YtldnldgndjbhfaaDoorTu
namespace Go.Proofs.YtldnldgndjbhfaaDoor
open Go.RowKit Go.Sort Go.Shelf
set_option linter.unusedSimpArgs false
set_option linter.unusedVariables false
attribute [local go_sem] Oper.semAt_some

theorem ends_snoc (q : List (List UInt8)) (z : List UInt8) : ends (q ++ [z]) = q.map (· ++ [10]) ++ (if z = [] then [] else [z]) := by
  unfold ends
  rw [List.dropLast_concat, show (q ++ [z]).getLastD [] = z by simp]
theorem ends_line (a r : List UInt8) (h : ∀ b ∈ a, b ≠ 10) : ends (parts 10 [] (a ++ 10 :: r)) = (a ++ [10]) :: ends (parts 10 [] r) := by
  rw [parts_some 10 a r [] h, List.nil_append]
  have hn := parts_ne 10 [] r
  generalize parts 10 [] r = p at *
  obtain ⟨q, z, rfl⟩ : ∃ q z, p = q ++ [z] := ⟨p.dropLast, p.getLast hn, (List.dropLast_concat_getLast hn).symm⟩
  rw [show a :: (q ++ [z]) = (a :: q) ++ [z] by simp, ends_snoc, ends_snoc]
  simp
theorem ends_rest (a : List UInt8) (h : ∀ b ∈ a, b ≠ 10) (h0 : a ≠ []) : ends (parts 10 [] a) = [a] := by
  rw [parts_none 10 a [] h]
  unfold ends
  simp [h0]
theorem ends_nil : ends (parts 10 [] []) = [] := by
  unfold ends parts
  simp

/-- A line of bounded length. -/
abbrev Ln := { x : List UInt8 // x.length ≤ 12000 }
def encL (x : Ln) : Array Value := #[.string (tx x.1)]
def boxLen (b : Nat) (W : World) : Nat := match W.cell? ⟨b, 0, none⟩ with
  | some (.string s) => s.size
  | _ => 0
theorem boxLen_of {W : World} {b : Nat} {t : TypeId} {s : ByteArray} (h : Boxed W b t (.string s)) : boxLen b W = s.size := by
  unfold boxLen
  rw [h.cell]

theorem idx_split (rem : List UInt8) (o : Nat) (h : Lib.indexByte rem 10 = o) : o < rem.length ∧ rem = rem.take o ++ 10 :: rem.drop (o + 1) ∧ ∀ b ∈ rem.take o, b ≠ 10 := by
  obtain ⟨h1, h2⟩ := Lib.indexByte_some h
  obtain ⟨hl, he⟩ := List.getElem?_eq_some_iff.1 h1
  refine ⟨hl, ?_, ?_⟩
  · conv => lhs; rw [← List.take_append_drop o rem, List.drop_eq_getElem_cons hl, he]
  · intro b hb e
    subst e
    obtain ⟨k, hk, hk2⟩ := List.mem_take_iff_getElem.1 hb
    exact h2 k (by omega) (by rw [List.getElem?_eq_getElem (by omega), hk2])
theorem idx_none (rem : List UInt8) (h : Lib.indexByte rem 10 = -1) : ∀ b ∈ rem, b ≠ 10 := by
  intro b hb e
  subst e
  obtain ⟨k, hk, hk2⟩ := List.mem_iff_getElem.1 hb
  exact Lib.indexByte_none h k (by rw [List.getElem?_eq_getElem hk, hk2])

set_option maxRecDepth 100000 in
set_option maxHeartbeats 4000000 in
theorem lines_gives (n : Nat) (hn : 1 ≤ n) (Bs : Nat) (t : List UInt8) (ht : t.length ≤ 12000) (w : World) (hB : Boxed w Bs 9 (.string (tx t))) :
    Gives Fence.wide n Tryd.prog 51 #[.pointer (some ⟨Bs, 0, none⟩)] encL Bs (fun xs => xs.map Subtype.val = ends (parts 10 [] t)) (fun pre => pre.map Subtype.val <+: ends (parts 10 [] t)) 12001 w := by
  intro l J Jx W hst hlt hJ hJx hY h0
  have hBW : Boxed W Bs 9 (.string (tx t)) := hst.trans hB
  refine callsIn_of_wp Tryd.func51 rfl trivial ?_ rfl
  simp only [Tryd.ntmps51, List.size_toArray, List.length_cons, List.length_nil, Nat.reduceAdd, Nat.reduceSub, Array.replicate_succ, Array.replicate_zero, List.push_toArray, List.append_toArray, List.nil_append, List.cons_append]
  gi_wp2
  gi_loopw [3] (fun _ wr => ∃ (dn : List Ln) (rem : List UInt8), dn.map Subtype.val ++ ends (parts 10 [] rem) = ends (parts 10 [] t) ∧ dn.length + rem.length ≤ 12000 ∧ Boxed wr Bs 9 (.string (tx rem)) ∧ J dn wr) (fun _ wr => boxLen Bs wr)
  case atStart => exact ⟨[], t, by simp, by simpa using ht, hBW, h0⟩
  case round =>
    obtain ⟨dn, rem, hcat, hsum, hbx, hj⟩ := hrel
    cases hrem : rem with
    | nil =>
      subst hrem
      have hc := hbx.cell
      have hd : (tx []).size = 0 := rfl
      gi_wp2
      go_end0
      exact ⟨⟨_, rfl⟩, .inl ⟨dn, by simpa [ends_nil] using hcat, hj⟩⟩
    | cons b0 r0 =>
      have hpos : 0 < rem.length := by rw [hrem]; simp
      have hne : rem ≠ [] := by rw [hrem]; simp
      clear hrem
      have hc := hbx.cell
      have hfz := hbx.frozen
      have TS := tx_size rem
      have hposI : (0 : Int) < ((tx rem).size : Int) := by omega
      have IX : ∀ w, Calls Tryd.prog 52 #[.string (tx rem), .int .u8 10] w fun e w' => e = .returned (.int .i64 (Lib.indexByte rem 10)) ∧ w' = w := fun w => by
        have h := Tryd.strings_IndexByte (tx rem) 10 w
        rw [tx_bytes] at h
        exact h
      have hge := Lib.indexByte_ge rem 10
      by_cases hneg : Lib.indexByte rem 10 = -1
      · have hno := keep (idx_none rem hneg)
        rw [hneg] at IX
        have NE := keep hne
        clear hneg hge hne
        obtain ⟨fn, tmps, assign, body, hy, hR⟩ := hY dn ⟨rem, by omega⟩ _ (hJ dn wr (wr.setCell ⟨Bs, 0, none⟩ (.string ⟨#[]⟩)) hj (grownBy_setCell' wr Bs (.string ⟨#[]⟩))) (by omega)
        have hy : (Instr.yield l #[.string (tx rem)]).run Tryd.prog (wr.setCell ⟨Bs, 0, none⟩ (.string ⟨#[]⟩)) = .ok (.round l fn tmps assign body) (wr.setCell ⟨Bs, 0, none⟩ (.string ⟨#[]⟩)) := hy
        have hbx2 := keep (Boxed.set (.string ⟨#[]⟩) hbx)
        gi_wp2_with fail
        refine ⟨trivial, CallsIn.mono (callsIn_wide.2 (IX _)) ?_⟩
        rintro e w1 ⟨rfl, hw1⟩
        have hw1 := hw1.symm
        subst hw1
        gi_wp2_with fail
        refine hR.mono ?_
        rintro e W3 (⟨rfl, hJ3, hk3, hs3⟩ | ⟨rfl, hJx3⟩)
        · gi_wp2
          go_roundw
          case rel => exact ⟨dn ++ [⟨rem, by omega⟩], [], by rw [List.map_append, ends_nil, List.append_nil, ← hcat, ends_rest rem hno.out NE.out]; rfl, by simp; omega, hk3.trans hbx2.out, hJ3⟩
          case measure => rw [boxLen_of (show Boxed W3 Bs 9 (.string (tx [])) from hk3.trans hbx2.out), boxLen_of hbx, TS]; exact hpos
        · gi_wp2
          refine bodyPost_ret (results_none rfl _ _ _) rfl ?_
          exact ⟨⟨_, rfl⟩, .inr ⟨_, ⟨[], by rw [List.map_append, List.append_nil, ← hcat, ends_rest rem hno.out NE.out]; rfl⟩, hJx3⟩⟩
      · obtain ⟨o, ho⟩ : ∃ o : Nat, Lib.indexByte rem 10 = o := ⟨(Lib.indexByte rem 10).toNat, by omega⟩
        obtain ⟨hol, hsp, hno⟩ := idx_split rem o ho
        rw [ho] at IX
        have HS := keep hsp
        have HN := keep hno
        clear hneg hge hne ho hsp hno
        have EXa := keep (show (tx rem).extract 0 (o + 1) = tx (rem.take o ++ [10]) by
          rw [tx_piece, tx_bytes, List.drop_zero, Nat.sub_zero]
          congr 1
          have hl : o < rem.length := hol
          rw [List.take_succ_eq_append_getElem hl]
          congr 1
          have e := HS.out
          have h10 : rem[o]? = some 10 := by
            rw [e, List.getElem?_append_right (by rw [List.length_take]; omega), List.length_take, show o - min o rem.length = 0 by omega]
            rfl
          rw [List.getElem?_eq_getElem hl] at h10
          rw [Option.some.inj h10])
        have EXb := keep (show (tx rem).extract (o + 1) rem.length = tx (rem.drop (o + 1)) by
          rw [tx_piece, tx_bytes, List.take_of_length_le (by rw [List.length_drop]; omega)])
        have ow : IntKind.i64.wrap ((o : Int) + 1) = ((o + 1 : Nat) : Int) := IntWalk.i64_in _ ⟨by omega, by omega⟩
        have oI : (o : Int) + 1 ≤ (rem.length : Int) := by omega
        gi_wp2_with fail
        refine ⟨trivial, CallsIn.mono (callsIn_wide.2 (IX _)) ?_⟩
        rintro e w1 ⟨rfl, hw1⟩
        have hw1 := hw1.symm
        subst hw1
        gi_wp2_with fail
        gi_region
        rw [EXa.out, EXb.out]
        have hxl : (rem.take o ++ [10]).length ≤ 12000 := by rw [List.length_append, List.length_take]; show _ + 1 ≤ _; omega
        have hgd : wr.grownBy ((wr.setCell ⟨Bs, 0, none⟩ (.string (tx (rem.drop (o + 1))))).drew) (some Bs) := by
          have h := grownBy_setCell' wr Bs (.string (tx (rem.drop (o + 1))))
          exact ⟨h.os, h.tape, h.output, h.size, h.block⟩
        obtain ⟨fn, tmps, assign, body, hy, hR⟩ := hY dn ⟨rem.take o ++ [10], hxl⟩ _ (hJ dn wr _ hj hgd) (by omega)
        have hy : (Instr.yield l #[.string (tx (rem.take o ++ [10]))]).run Tryd.prog ((wr.setCell ⟨Bs, 0, none⟩ (.string (tx (rem.drop (o + 1))))).drew) = .ok (.round l fn tmps assign body) ((wr.setCell ⟨Bs, 0, none⟩ (.string (tx (rem.drop (o + 1))))).drew) := hy
        have hbx2 : Kept (Boxed ((wr.setCell ⟨Bs, 0, none⟩ (.string (tx (rem.drop (o + 1))))).drew) Bs 9 (.string (tx (rem.drop (o + 1))))) := keep (Boxed.set (.string (tx (rem.drop (o + 1)))) hbx)
        have HE := keep (show ends (parts 10 [] rem) = (rem.take o ++ [10]) :: ends (parts 10 [] (rem.drop (o + 1))) by
          conv => lhs; rw [HS.out]
          exact ends_line _ _ HN.out)
        gi_wp2_with fail
        refine hR.mono ?_
        rintro e W3 (⟨rfl, hJ3, hk3, hs3⟩ | ⟨rfl, hJx3⟩)
        · gi_wp2
          go_roundw
          case rel => exact ⟨dn ++ [⟨rem.take o ++ [10], hxl⟩], rem.drop (o + 1), by rw [List.map_append, List.append_assoc, ← hcat, HE.out]; rfl, by rw [List.length_append, List.length_drop]; show dn.length + 1 + _ ≤ _; omega, hk3.trans hbx2.out, hJ3⟩
          case measure => rw [boxLen_of (show Boxed W3 Bs 9 (.string (tx (rem.drop (o + 1)))) from hk3.trans hbx2.out), boxLen_of hbx, TS, tx_size, List.length_drop]; omega
        · gi_wp2
          refine bodyPost_ret (results_none rfl _ _ _) rfl ?_
          exact ⟨⟨_, rfl⟩, .inr ⟨_, ⟨ends (parts 10 [] (rem.drop (o + 1))), by rw [List.map_append, List.append_assoc, ← hcat, HE.out]; rfl⟩, hJx3⟩⟩
end Go.Proofs.YtldnldgndjbhfaaDoor
