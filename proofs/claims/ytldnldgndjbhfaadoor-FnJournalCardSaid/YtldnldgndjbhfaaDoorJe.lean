/- The journal of some texts: the program's function by its contract. The table of powers of ten is a premise. -/
import Derived.Test.YtldnldgndjbhfaaDoorJd
import Derived.Lib.IndexAny
namespace Go.Proofs.YtldnldgndjbhfaaDoor
open Go.RowKit Go.Sort

/-- The check number and the journal behind some texts. -/
def jst (ss : List ByteArray) : Int × List UInt8 := ss.foldl (fun st s => (ck st.1 s.data.toList, st.2 ++ jl st.1 s.data.toList)) (0, [])
theorem jst_snoc (ss : List ByteArray) (s : ByteArray) : jst (ss ++ [s]) = (ck (jst ss).1 s.data.toList, (jst ss).2 ++ jl (jst ss).1 s.data.toList) := by
  unfold jst; rw [List.foldl_append]; rfl
theorem jst_take (ss : List ByteArray) (k : Nat) (h : k < ss.length) : jst (ss.take (k + 1)) = (ck (jst (ss.take k)).1 ss[k].data.toList, (jst (ss.take k)).2 ++ jl (jst (ss.take k)).1 ss[k].data.toList) := by
  rw [List.take_succ_eq_append_getElem h, jst_snoc]
theorem snocInd {α : Type} {p : List α → Prop} (h0 : p []) (h1 : ∀ l a, p l → p (l ++ [a])) : ∀ l, p l := by
  intro l
  have : ∀ n, ∀ l : List α, l.length = n → p l := by
    intro n
    induction n with
    | zero => intro l hl; rw [List.eq_nil_of_length_eq_zero hl]; exact h0
    | succ n ih =>
      intro l hl
      have hne : l ≠ [] := by intro e; subst e; cases hl
      rw [← List.dropLast_concat_getLast hne]
      exact h1 _ _ (ih _ (by rw [List.length_dropLast]; omega))
  exact this _ l rfl
theorem jst_bound (ss : List ByteArray) : 0 ≤ (jst ss).1 ∧ (jst ss).1 ≤ 65002 := by
  induction ss using snocInd with
  | h0 => exact ⟨by decide, by decide⟩
  | h1 l a ih => rw [jst_snoc]; exact ck_bound _ _ ih.1 ih.2
theorem tot_snoc (ss : List ByteArray) (s : ByteArray) : tot (ss ++ [s]) = tot ss + s.size := by
  unfold tot
  simp only [List.map_append, List.sum_append, List.map_cons, List.map_nil, List.sum_cons, List.sum_nil, Nat.add_zero]
theorem bytes_len (s : ByteArray) : s.data.toList.length = s.size := by rw [Array.length_toList]; rfl
theorem jst_len (ss : List ByteArray) : tot ss + 3 * ss.length ≤ (jst ss).2.length ∧ (jst ss).2.length ≤ tot ss + 7 * ss.length := by
  induction ss using snocInd with
  | h0 => exact ⟨by decide, by decide⟩
  | h1 l a ih =>
    have hb := jst_bound l
    have hj := jl_len (jst l).1 a.data.toList hb.1 hb.2
    rw [bytes_len] at hj
    rw [jst_snoc, tot_snoc, List.length_append]
    simp only [List.length_append, List.length_cons, List.length_nil]
    omega
theorem jst_mono (ss : List ByteArray) (k : Nat) : (jst (ss.take k)).2.length ≤ (jst ss).2.length := by
  by_cases h : k < ss.length
  · have : ∀ d, k + d ≤ ss.length → (jst (ss.take k)).2.length ≤ (jst (ss.take (k + d))).2.length := by
      intro d
      induction d with
      | zero => intro _; exact Nat.le_refl _
      | succ d ih =>
        intro hd
        refine Nat.le_trans (ih (by omega)) ?_
        rw [← Nat.add_assoc, jst_take ss (k + d) (by omega), List.length_append]
        omega
    have h2 := this (ss.length - k) (by omega)
    rw [show k + (ss.length - k) = ss.length from by omega, List.take_length] at h2
    exact h2
  · rw [List.take_of_length_le (by omega)]; exact Nat.le_refl _

/-- Does a text hold a new line? -/
def nl (s : ByteArray) : Bool := s.data.toList.contains 10
theorem nl_index (s : ByteArray) : decide (0 ≤ Lib.indexByte s.data.toList 10) = nl s := (Lib.contains_iff_indexByte _ _).symm

/-- Have these texts a journal? -/
def goodB (ss : List ByteArray) : Bool := ss.all (fun s => !nl s) && decide ((jst ss).2.length ≤ 12000)
theorem bad_nl (ss : List ByteArray) (k : Nat) (hk : k < ss.length) (h : nl ss[k] = true) : goodB ss = false := by
  unfold goodB
  have : ss.all (fun s => !nl s) = false := by
    rw [List.all_eq_false]
    exact ⟨ss[k], List.getElem_mem hk, by simp [h]⟩
  rw [this]; rfl
theorem bad_len (ss : List ByteArray) (k : Nat) (h : 12000 < (jst (ss.take k)).2.length) : goodB ss = false := by
  unfold goodB
  have := jst_mono ss k
  rw [show decide ((jst ss).2.length ≤ 12000) = false by simp; omega]
  simp
theorem bad_one (ss : List ByteArray) (k : Nat) (hk : k < ss.length) (h : 12000 < ss[k].size) : goodB ss = false := by
  refine bad_len ss (k + 1) ?_
  have := (jst_len (ss.take (k + 1))).1
  rw [tot_take ss k hk] at this
  omega
theorem good_all (ss : List ByteArray) (h1 : ∀ k (h : k < ss.length), nl ss[k] = false) (h2 : (jst ss).2.length ≤ 12000) : goodB ss = true := by
  unfold goodB
  rw [show ss.all (fun s => !nl s) = true by
    rw [List.all_eq_true]
    intro s hs
    obtain ⟨i, hi, rfl⟩ := List.getElem_of_mem hs
    simp [h1 i hi]]
  simpa using h2

/-- What both functions hand back. -/
def jres (ss : List ByteArray) : Value := if goodB ss then .tuple #[.string ⟨(jst ss).2.toArray⟩, .bool true] else .tuple #[.string ⟨#[]⟩, .bool false]
theorem jres_no {ss : List ByteArray} (h : goodB ss = false) : jres ss = .tuple #[.string ⟨#[]⟩, .bool false] := by unfold jres; rw [h]; rfl
theorem jres_yes {ss : List ByteArray} (h : goodB ss = true) : jres ss = .tuple #[.string ⟨(jst ss).2.toArray⟩, .bool true] := by unfold jres; rw [h]; rfl
/-- The post, kept from the walk. -/
def JOut (ss : List ByteArray) (w : World) (e : Ending) (w' : World) : Prop := e = .returned (jres ss) ∧ Below w.heap.size w w'

theorem isScript_any (s : ByteArray) (w : World) : Calls Tryd.prog 16 #[.string s] w fun e w' => e = .returned (.bool (decide ((s.size : Int) ≤ 12000))) ∧ w' = w := by
  go_enter Tryd.func16, Tryd.ntmps16
  go_wp2
  go_ret
  exact ⟨rfl, rfl⟩

theorem app_bytes (a b : List UInt8) : (⟨a.toArray⟩ : ByteArray) ++ ⟨b.toArray⟩ = ⟨(a ++ b).toArray⟩ := by
  apply ByteArray.ext
  apply Array.ext'
  simp

set_option maxHeartbeats 4000000 in
set_option maxRecDepth 20000 in
theorem JournalOf_any (A : Option Addr) (c : Nat) (ss : List ByteArray) (w : World) (hr : Rd w w.heap.size A ss) (hm : small ss) (htab : P10 w) :
    Calls Tryd.prog 7 #[.slice A ss.length c] w (JOut ss w) := by
  have hlen : ss.length ≤ 1048576 := by unfold small at hm; omega
  have HM := keep hm
  have HR := keep hr
  have HT := keep htab
  clear hr hm htab
  go_enter Tryd.func7, Tryd.ntmps7
  go_wp2
  go_loopw [4, 5, 11] (fun o ch i wr => ∃ (k n : Nat) (O : ByteArray), k ≤ ss.length ∧ i = .int .i64 k ∧ ch = .int .i64 n ∧ o = .string O ∧ O.size ≤ 12000 ∧ n ≤ 65002 ∧ Kept ((n : Int) = (jst (ss.take k)).1) ∧ Kept (O = ⟨(jst (ss.take k)).2.toArray⟩) ∧ Kept (∀ j (h : j < ss.length), j < k → nl ss[j] = false) ∧ Below w.heap.size w wr) (fun _ _ i _ => ss.length - (intOf i).toNat)
  case atStart => exact ⟨0, 0, ⟨#[]⟩, Nat.zero_le _, rfl, rfl, rfl, by decide, by omega, keep rfl, keep rfl, keep (fun j h hj => absurd hj (by omega)), Below.refl _ _⟩
  case round =>
    obtain ⟨k, n, O, hk, rfl, rfl, rfl, hOs, hn, hq, hO, hnl, hb⟩ := hrel
    by_cases hlt : k < ss.length
    · obtain ⟨ad, rfl, hbl, hc⟩ := HR.out (by omega)
      have hck : wr.cell? (ad.add k) = some (.string ss[k]) := by rw [hb.cell (p := ad.add k) (by rw [block_of_add]; exact hbl)]; exact hc k hlt
      have hsz : ss[k].size ≤ 1048576 := by have h1 := HM.out; have h2 := size_le_tot ss ss[k] (List.getElem_mem hlt); unfold small at h1; omega
      have HN := keep (bad_nl ss k hlt)
      have HO1 := keep (bad_one ss k hlt)
      have HJT := keep (jst_take ss k hlt)
      have HNX : Kept (nl ss[k] = false → ∀ j (h : j < ss.length), j < k + 1 → nl ss[j] = false) := keep (fun h0 j h hj => by
        by_cases e : j = k
        · subst e; exact h0
        · exact hnl.out j h (by omega))
      have HC : Kept (∀ w, Calls Tryd.prog 14 #[.string ss[k], .string ⟨#[10]⟩] w fun e w' => e = .returned (.bool (nl ss[k])) ∧ w' = w) := keep (fun w => by
        have h := Tryd.strings_Contains_one ss[k] 10 w
        rw [nl_index] at h
        exact h)
      clear hc hnl
      generalize ss[k] = s at *
      cases hnlk : nl s
      case true =>
        rw [hnlk] at HC HN
        clear hnlk
        go_wp2_with (go_at_call 14; refine (HC.out _).mono ?_; rintro e w' ⟨rfl, rfl⟩)
        go_ret2
        exact ⟨by rw [jres_no (HN.out trivial)]; rfl, hb⟩
      case false =>
        rw [hnlk] at HC HNX
        clear hnlk
        by_cases hbig : 12000 < s.size
        · have hd : decide (12000 < (s.size : Int)) = true := by simp; omega
          have HB := keep (HO1.out hbig)
          clear hbig
          go_wp2_with (go_at_call 14; refine (HC.out _).mono ?_; rintro e w' ⟨rfl, rfl⟩)
          go_ret2
          exact ⟨by rw [jres_no HB.out]; rfl, hb⟩
        · have hd : decide (12000 < (s.size : Int)) = false := by simp; omega
          have HL := keep (journalLine_any n s wr (by omega) (by omega) (by omega) (pow10_stays HT.out hb (Nat.le_refl _)))
          have hjl := jl_len n s.data.toList (by omega) (by omega)
          rw [bytes_len] at hjl
          have hln : (⟨(jl n s.data.toList).toArray⟩ : ByteArray).size ≤ 12007 := by simp only [ByteArray.size, List.size_toArray]; omega
          have hcb := ck_bound n s.data.toList (by omega) (by omega)
          obtain ⟨c2, hc2⟩ : ∃ c2 : Nat, ck n s.data.toList = c2 := ⟨(ck n s.data.toList).toNat, by omega⟩
          have hc2b : c2 ≤ 65002 := by omega
          rw [hc2] at HL
          have hJ1 : (c2 : Int) = (jst (ss.take (k + 1))).1 := by rw [HJT.out, ← hq.out, hc2]
          have hJ2 : O ++ ⟨(jl n s.data.toList).toArray⟩ = ⟨(jst (ss.take (k + 1))).2.toArray⟩ := by rw [HJT.out, hO.out, app_bytes, ← hq.out]
          have HJ1 := keep hJ1
          have HJ2 := keep hJ2
          have HI := keep (fun w => isScript_any (O ++ ⟨(jl n s.data.toList).toArray⟩) w)
          clear hcb hc2 hJ1 hJ2 hjl
          generalize (⟨(jl n s.data.toList).toArray⟩ : ByteArray) = L at *
          have hap : (O ++ L).size = O.size + L.size := ByteArray.size_append
          by_cases hlong : O.size + L.size ≤ 12000
          · have hdi : decide (((O ++ L).size : Int) ≤ 12000) = true := by rw [hap]; simp; omega
            rw [hdi] at HI
            have HAP := keep hap
            clear hap hdi
            go_wp2_with (first
              | (go_at_call 14; refine (HC.out _).mono ?_; rintro e w' ⟨rfl, rfl⟩)
              | (go_at_call 15; refine HL.out.mono ?_; rintro e w1 ⟨rfl, hb1⟩)
              | (go_at_call 16; refine (HI.out _).mono ?_; rintro e w' ⟨rfl, rfl⟩))
            go_roundw
            case rel => exact ⟨k + 1, c2, O ++ L, by omega, by go_num, rfl, rfl, by rw [HAP.out]; omega, hc2b, HJ1, HJ2, keep (HNX.out trivial), hb.trans (hb1.mono hb.size)⟩
            case measure => simp [intOf]; omega
          · have hdi : decide (((O ++ L).size : Int) ≤ 12000) = false := by rw [hap]; simp; omega
            rw [hdi] at HI
            have hB : goodB ss = false := bad_len ss (k + 1) (by
              have := congrArg ByteArray.size HJ2.out
              rw [hap] at this
              simp only [ByteArray.size, List.size_toArray] at this hlong
              omega)
            have HB := keep hB
            clear hap hdi hB
            go_wp2_with (first
              | (go_at_call 14; refine (HC.out _).mono ?_; rintro e w' ⟨rfl, rfl⟩)
              | (go_at_call 15; refine HL.out.mono ?_; rintro e w1 ⟨rfl, hb1⟩)
              | (go_at_call 16; refine (HI.out _).mono ?_; rintro e w' ⟨rfl, rfl⟩))
            go_ret2
            exact ⟨by rw [jres_no HB.out]; rfl, hb.trans (hb1.mono hb.size)⟩
    · have hke : k = ss.length := by omega
      have hgood : goodB ss = true ∧ O = ⟨(jst ss).2.toArray⟩ := by
        have h1 := hO.out
        rw [hke, List.take_length] at h1
        refine ⟨good_all ss (fun j h => hnl.out j h (by omega)) ?_, h1⟩
        have := congrArg ByteArray.size h1
        simp only [ByteArray.size, List.size_toArray] at this hOs
        omega
      have HG := keep hgood
      clear hke hgood
      go_wp2
      go_ret2
      exact ⟨by rw [jres_yes HG.out.1, ← HG.out.2]; rfl, hb⟩
end Go.Proofs.YtldnldgndjbhfaaDoor
