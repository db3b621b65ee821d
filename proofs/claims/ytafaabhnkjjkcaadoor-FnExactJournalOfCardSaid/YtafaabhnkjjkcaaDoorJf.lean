/- The journal of some texts: the reference's function by its contract. No condition but the stated bounds. -/
import Derived.Test.YtafaabhnkjjkcaaDoorJe
namespace Go.Proofs.YtafaabhnkjjkcaaDoor
open Go.RowKit Go.Sort

/-- The post of the reference's inner function, kept from the walk. -/
def JStr (ss : List ByteArray) (w : World) (e : Ending) (w' : World) : Prop := e = .returned (.string ⟨(jst ss).2.toArray⟩) ∧ Below w.heap.size w w'

theorem jl_app (O : ByteArray) (n : Int) (s : ByteArray) : O ++ ((((⟨(Lib.itoa (ck n s.data.toList)).toArray⟩ : ByteArray) ++ ⟨#[32]⟩) ++ s) ++ ⟨#[10]⟩) = O ++ ⟨(jl n s.data.toList).toArray⟩ := by rw [jl_bytes]

set_option maxHeartbeats 4000000 in
set_option maxRecDepth 20000 in
theorem l11Journal_any (A : Option Addr) (c : Nat) (ss : List ByteArray) (w : World) (hr : Rd w w.heap.size A ss) (hm : small ss) :
    Calls Tryd.prog 23 #[.slice A ss.length c] w (JStr ss w) := by
  have hlen : ss.length ≤ 1048576 := by unfold small at hm; omega
  have HM := keep hm
  have HR := keep hr
  clear hr hm
  go_enter Tryd.func23, Tryd.ntmps23
  go_wp2
  go_loopw [3, 4, 5] (fun o ch i wr => ∃ (k n : Nat) (O : ByteArray), k ≤ ss.length ∧ i = .int .i64 k ∧ ch = .int .i64 n ∧ o = .string O ∧ n ≤ 65002 ∧ Kept ((n : Int) = (jst (ss.take k)).1) ∧ Kept (O = ⟨(jst (ss.take k)).2.toArray⟩) ∧ Below w.heap.size w wr) (fun _ _ i _ => ss.length - (intOf i).toNat)
  case atStart => exact ⟨0, 0, ⟨#[]⟩, Nat.zero_le _, rfl, rfl, rfl, by omega, keep rfl, keep rfl, Below.refl _ _⟩
  case round =>
    obtain ⟨k, n, O, hk, rfl, rfl, rfl, hn, hq, hO, hb⟩ := hrel
    by_cases hlt : k < ss.length
    · obtain ⟨ad, rfl, hbl, hc⟩ := HR.out (by omega)
      have hck : wr.cell? (ad.add k) = some (.string ss[k]) := by rw [hb.cell (p := ad.add k) (by rw [block_of_add]; exact hbl)]; exact hc k hlt
      have hsz : ss[k].size ≤ 1048576 := by have h1 := HM.out; have h2 := size_le_tot ss ss[k] (List.getElem_mem hlt); unfold small at h1; omega
      have hOz : O.size ≤ 10000000 := by
        have h1 := congrArg ByteArray.size hO.out
        simp only [ByteArray.size, List.size_toArray] at h1
        have h2 := (jst_len (ss.take k)).2
        have h3 := tot_le ss k
        have h4 := HM.out
        unfold small at h4
        have h5 : (ss.take k).length ≤ k := List.length_take_le _ _
        show O.data.size ≤ _
        omega
      have HJT := keep (jst_take ss k hlt)
      clear hc
      generalize ss[k] = s at *
      have hcb := ck_bound n s.data.toList (by omega) (by omega)
      obtain ⟨c2, hc2⟩ : ∃ c2 : Nat, ck n s.data.toList = c2 := ⟨(ck n s.data.toList).toNat, by omega⟩
      have hc2b : c2 ≤ 65002 := by omega
      have HC := keep (fun w => l01Check_any n s w (by omega) (by omega) (by omega))
      rw [hc2] at HC
      have hJ1 : (c2 : Int) = (jst (ss.take (k + 1))).1 := by rw [HJT.out, ← hq.out, hc2]
      have hJ2 : O ++ ((((⟨(Lib.itoa (c2 : Int)).toArray⟩ : ByteArray) ++ ⟨#[32]⟩) ++ s) ++ ⟨#[10]⟩) = ⟨(jst (ss.take (k + 1))).2.toArray⟩ := by
        rw [HJT.out, hO.out, ← hc2, jl_app, app_bytes, ← hq.out]
      have HJ1 := keep hJ1
      have HJ2 := keep hJ2
      have HD := keep (fun w => l01Dec_any c2 w hc2b)
      have hsd : (⟨(Lib.itoa (c2 : Int)).toArray⟩ : ByteArray).size ≤ 5 := by have := (itoa_len c2 hc2b).2; simpa [ByteArray.size] using this
      have hkk : (0 : Int) ≤ (k : Int) := by omega
      have hkl : (k : Int) < (ss.length : Int) := by omega
      clear hcb hc2 hJ1 hJ2 hq hO HJT
      generalize (⟨(Lib.itoa (c2 : Int)).toArray⟩ : ByteArray) = D at *
      go_wp2_with (go_at_call 41; refine (HC.out _).mono ?_; rintro e w' ⟨rfl, rfl⟩)
      have l1 : ¬ 9223372036854775807 < D.size + 1 := by omega
      have l2 : ¬ 9223372036854775807 < D.size + 1 + s.size := by omega
      have l3 : ¬ 9223372036854775807 < D.size + 1 + s.size + 1 := by omega
      have l4 : ¬ 9223372036854775807 < O.size + (D.size + 1 + s.size + 1) := by omega
      go_region_held3 (fun wx => wx.cell? (ad.add k) = some (.string s)) (first | go_keep | (rw [hb2.cell (p := ad.add k) (by rw [block_of_add]; exact Nat.lt_of_lt_of_le hbl hb.size)]; assumption))
        (first | (go_at_call 42; refine (HD.out _).mono ?_; rintro e w1 ⟨rfl, hb2⟩))
      clear l1 l2 l3 l4
      have HB2 := keep (hb.drew.trans (hb2.mono hb.size))
      clear hb2
      go_wp2_with fail
      go_roundw
      case rel => exact ⟨k + 1, c2, _, by omega, by go_num, rfl, rfl, hc2b, HJ1, HJ2, HB2.out⟩
      case measure => simp [intOf]; omega
    · have hke : k = ss.length := by omega
      have hfin : O = ⟨(jst ss).2.toArray⟩ := by
        have h1 := hO.out
        rw [hke, List.take_length] at h1
        exact h1
      have HG := keep hfin
      clear hke hfin
      go_wp2
      go_ret
      exact ⟨by rw [← HG.out]; rfl, hb⟩

theorem nl_mem (s : ByteArray) (j : Nat) (h : j < s.size) (e : s[j] = 10) : nl s = true := by
  unfold nl
  rw [List.contains_iff_mem]
  have : s[j] ∈ s.data.toList := by
    show s.data[j] ∈ s.data.toList
    exact Array.mem_toList_iff.2 (Array.getElem_mem h)
  rw [e] at this
  exact this
theorem nl_none (s : ByteArray) (h : ∀ j (hj : j < s.size), s[j] ≠ 10) : nl s = false := by
  unfold nl
  rw [← Bool.not_eq_true, List.contains_iff_mem]
  intro hm
  obtain ⟨j, hj, e⟩ := List.getElem_of_mem hm
  exact h j (by rw [bytes_len] at hj; exact hj) e

theorem tot3 (ss : List ByteArray) (k : Nat) (h : 12000 < tot (ss.take k) + 3 * k) (hk : k ≤ ss.length) : goodB ss = false := by
  refine bad_len ss k ?_
  have := (jst_len (ss.take k)).1
  rw [List.length_take_of_le hk] at this
  omega

set_option maxHeartbeats 4000000 in
set_option maxRecDepth 20000 in
theorem sJournalOf_any (A : Option Addr) (c : Nat) (ss : List ByteArray) (w : World) (hr : Rd w w.heap.size A ss) (hm : small ss) :
    Calls Tryd.prog 8 #[.slice A ss.length c] w (JOut ss w) := by
  have hlen : ss.length ≤ 1048576 := by unfold small at hm; omega
  have HM := keep hm
  have HR := keep hr
  clear hr hm
  go_enter Tryd.func8, Tryd.ntmps8
  go_wp2
  go_loopw [4, 5] (fun t i wr => ∃ k n : Nat, k ≤ ss.length ∧ i = .int .i64 k ∧ t = .int .i64 n ∧ n ≤ 12000 ∧ Kept (n = tot (ss.take k) + 3 * k) ∧ Kept (∀ j (h : j < ss.length), j < k → nl ss[j] = false) ∧ Kept (∃ d, wr = w.drewN d)) (fun _ i _ => ss.length - (intOf i).toNat)
  case atStart => exact ⟨0, 0, Nat.zero_le _, rfl, rfl, by omega, keep (by simp [tot]), keep (fun j h hj => absurd hj (by omega)), keep ⟨0, rfl⟩⟩
  case round =>
    obtain ⟨k, n, hk, rfl, rfl, hn, hq, hnl, hd⟩ := hrel
    by_cases hlt : k < ss.length
    · obtain ⟨ad, rfl, hbl, hc⟩ := HR.out (by omega)
      have hck : wr.cell? (ad.add k) = some (.string ss[k]) := by obtain ⟨d, rfl⟩ := hd.out; exact hc k hlt
      have hsz : ss[k].size ≤ 1048576 := by have h1 := HM.out; have h2 := size_le_tot ss ss[k] (List.getElem_mem hlt); unfold small at h1; omega
      have HT := keep (tot_take ss k hlt)
      have HN := keep (bad_nl ss k hlt)
      have HNX : Kept (nl ss[k] = false → ∀ j (h : j < ss.length), j < k + 1 → nl ss[j] = false) := keep (fun h0 j h hj => by
        by_cases e : j = k
        · subst e; exact h0
        · exact hnl.out j h (by omega))
      clear hc hnl
      generalize ss[k] = s at *
      by_cases hbig : 12000 < n + (s.size + 3)
      · have hdd : decide (12000 < (n : Int) + ((s.size : Int) + 3)) = true := by simp; omega
        have HB := keep (tot3 ss (k + 1) (by have h1 := hq.out; have h2 := HT.out; omega) (by omega))
        clear hbig
        go_wp2
        go_ret2
        exact ⟨by rw [jres_no HB.out]; rfl, by obtain ⟨d, rfl⟩ := hd.out; exact ⟨rfl, rfl, rfl, Nat.le_refl _, fun _ _ => rfl⟩⟩
      · have hdd : decide (12000 < (n : Int) + ((s.size : Int) + 3)) = false := by simp; omega
        obtain ⟨wo, rfl⟩ : ∃ wo : World, wo = wr := ⟨_, rfl⟩
        go_wp2
        go_loopw [6] (fun j wx => ∃ m : Nat, m ≤ s.size ∧ j = .int .i64 m ∧ Kept (wo = wx) ∧ Kept (∀ q (h : q < s.size), q < m → s[q] ≠ 10)) (fun j _ => s.size - (intOf j).toNat)
        case atStart => exact ⟨0, Nat.zero_le _, rfl, keep rfl, keep (fun q h hj => absurd hj (by omega))⟩
        case round =>
          obtain ⟨m, hm, rfl, hwx, hno⟩ := hrel
          obtain rfl := hwx.out
          by_cases hlm : m < s.size
          · cases h10 : (((s[m].toNat : Nat) : Int) == 10)
            case true =>
              have HB := keep (HN.out (nl_mem s m hlm (by
                have h1 := beq_iff_eq.1 h10
                apply UInt8.toNat_inj.1
                show _ = 10
                omega)))
              go_wp2
              go_ret2
              exact ⟨by rw [jres_no HB.out]; rfl, by obtain ⟨d, rfl⟩ := hd.out; exact ⟨rfl, rfl, rfl, Nat.le_refl _, fun _ _ => rfl⟩⟩
            case false =>
              have hne : s[m] ≠ 10 := by
                intro e
                rw [e] at h10
                cases h10
              have HNO : Kept (∀ q (h : q < s.size), q < m + 1 → s[q] ≠ 10) := keep (fun q h hq => by
                by_cases e : q = m
                · subst e; exact hne
                · exact hno.out q h (by omega))
              clear hne
              go_wp2
              go_roundw
              case rel => exact ⟨m + 1, by omega, by go_num, keep trivial, HNO⟩
              case measure => simp [intOf]; omega
          · have HNL := keep (HNX.out (nl_none s (fun q h => hno.out q h (by omega))))
            go_wp2
            go_roundw
            case rel => exact ⟨k + 1, n + (s.size + 3), by omega, by go_num, by go_num, by omega, keep (by have h1 := hq.out; have h2 := HT.out; omega), HNL, hd⟩
            case measure => simp [intOf]; omega
    · have hke : k = ss.length := by omega
      have hall : ∀ j (h : j < ss.length), nl ss[j] = false := fun j h => hnl.out j h (by omega)
      have HA := keep hall
      have HL := keep (fun w => l11Journal_any A c ss w)
      have hbw : Below w.heap.size w wr := by obtain ⟨d, rfl⟩ := hd.out; exact ⟨rfl, rfl, rfl, Nat.le_refl _, fun _ _ => rfl⟩
      have HR2 := keep (HR.out.below hbw)
      have hbs : w.heap.size = wr.heap.size := by obtain ⟨d, rfl⟩ := hd.out; rfl
      rw [hbs] at HR2
      have HBW := keep hbw
      clear hke hall hbw hbs
      by_cases hlong : (jst ss).2.length ≤ 12000
      · have hdd : decide (12000 < ((⟨(jst ss).2.toArray⟩ : ByteArray).size : Int)) = false := by simp [ByteArray.size]; omega
        have HG := keep (good_all ss HA.out hlong)
        clear hlong
        have HQ := keep (HL.out wr HR2.out HM.out)
        unfold JStr at HQ
        generalize hJ : (⟨(jst ss).2.toArray⟩ : ByteArray) = J at *
        have HJ := keep hJ
        clear hJ
        go_wp2_with (go_at_call 23; refine HQ.out.mono ?_; rintro e w1 ⟨rfl, hb1⟩)
        go_ret2
        exact ⟨by rw [jres_yes HG.out, HJ.out]; rfl, HBW.out.trans (hb1.mono HBW.out.size)⟩
      · have hdd : decide (12000 < ((⟨(jst ss).2.toArray⟩ : ByteArray).size : Int)) = true := by simp [ByteArray.size]; omega
        have HG := keep (bad_len ss ss.length (by rw [List.take_length]; omega))
        clear hlong
        have HQ := keep (HL.out wr HR2.out HM.out)
        unfold JStr at HQ
        generalize (⟨(jst ss).2.toArray⟩ : ByteArray) = J at *
        go_wp2_with (go_at_call 23; refine HQ.out.mono ?_; rintro e w1 ⟨rfl, hb1⟩)
        go_ret2
        exact ⟨by rw [jres_no HG.out]; rfl, HBW.out.trans (hb1.mono HBW.out.size)⟩
end Go.Proofs.YtafaabhnkjjkcaaDoor
