/- Contracts: the reference's numbers in decimal, both ways. -/
import Derived.Test.YtdkjaffnkgbcnaaGreatDoorYa
import Derived.Test.YtdkjaffnkgbcnaaGreatDoorVCloud
namespace Go.Proofs.YtdkjaffnkgbcnaaGreatDoor
open Go.RowKit Go.Sort
set_option linter.unusedSimpArgs false
set_option linter.unusedVariables false

set_option maxHeartbeats 2000000 in
theorem l01Dec_pos (n : Nat) (w : World) (hn : n ≤ 1000000000000000) :
    Calls Tryz.prog 63 #[.int .i64 n] w fun e w' => e = .returned (.string ⟨(Lib.itoa n).toArray⟩) ∧ Below w.heap.size w w' := by
  have hneg : decide ((n : Int) < 0) = false := by simp
  obtain ⟨i0, hi, hz0, hz1, hz2⟩ := info_parts infoByte
  have HI := keep hi
  have HZ0 := keep hz0
  have HZ1 := keep hz1
  have HZ2 := keep hz2
  have D0 := dl_le n hn
  clear hi hz0 hz1 hz2
  go_enter Tryz.func63, Tryz.ntmps63
  go_wp2_with fail
  go_loopw [3, 4] (fun v r wr => ∃ (m : Nat) (out : List UInt8) (g c : Nat), r = .int .i64 m ∧ m ≤ 1000000000000000 ∧ v = .slice (some ⟨g, 0, none⟩) out.length c ∧ g < wr.heap.size ∧ Kept (wr.ownsRow w.heap.size 5 1 (.slice (some ⟨g, 0, none⟩) out.length c) out.length (bv out)) ∧ Kept (ddOf m out = Lib.decDigits n) ∧ out.length + dl m ≤ 17 ∧ Below w.heap.size w wr) (fun v r _ => (if lenV v = 0 then 1 else 0) + (intOf r).toNat)
  case atStart =>
    refine ⟨n, [], w.heap.size, 0, rfl, hn, rfl, by simp, keep ?_, keep (ddOf_start n), by simpa using (by omega : dl n ≤ 17), by go_grown⟩
    exact World.ownsRow_made w #[] 0 (Nat.le_refl _) (by unfold maxLen; omega) rfl
  case round =>
    obtain ⟨m, out, g, c, rfl, hm, rfl, hg, ho, hd, hl, hb⟩ := hrel
    by_cases hstop : m = 0 ∧ out ≠ []
    case pos =>
      obtain ⟨rfl, hout⟩ := hstop
      have hd' : Lib.itoa n = out := by rw [Lib.itoa_nonneg, ← hd.out, ddOf_done out hout]
      have HD := keep hd'
      have hl0 : ((out.length : Int) == 0) = false := by
        rw [beq_eq_false_iff_ne]; intro h; exact hout (List.eq_nil_of_length_eq_zero (by omega))
      have hm0 : (((0 : Nat) : Int) != 0) = false := rfl
      have hm1 : ((0 : Int) != 0) = false := rfl
      have hconv := fun (dst src : TypeId) hs he hd => run_convert_bytes_back (P := Tryz.prog) wr src dst 5 ⟨g, 0, none⟩ c out hs he hd (owns_cells ho.out)
      have hcv := hconv 9 113 Tryz.underlying113 Tryz.underlying5 Tryz.underlying9
      clear hconv hd'
      go_wp2_with fail
      go_ret
      exact ⟨by rw [HD.out]; rfl, hb⟩
    case neg =>
      have hds := ddOf_step m out hstop
      have HD := keep (hds.trans hd.out)
      have hor : ((out.length : Int) == 0) = true ∨ (((out.length : Int) == 0) = false ∧ ((m : Int) != 0) = true) := by
        by_cases h0 : out = []
        · left; simp [h0]
        · right
          refine ⟨?_, ?_⟩
          · rw [beq_eq_false_iff_ne]; intro h; exact h0 (List.eq_nil_of_length_eq_zero (by omega))
          · rw [bne_iff_ne]; intro h; exact hstop ⟨by omega, h0⟩
      have HNS := keep (show 1 ≤ m ∨ out.length = 0 from by
        by_cases h0 : out = []
        · right; simp [h0]
        · left; exact Nat.pos_of_ne_zero fun e => hstop ⟨e, h0⟩)
      have HLN := keep (show out.length + 1 + dl (m / 10) ≤ 17 by
        rcases HNS.out with h1 | h0
        · have := dl_step m h1; omega
        · by_cases h1 : 1 ≤ m
          · have := dl_step m h1; omega
          · have : m = 0 := by omega
            subst this
            rw [h0]
            show 0 + 1 + dl 0 ≤ 17
            rw [dl_zero]; omega)
      have hlo : out.length ≤ 17 := by omega
      clear hds hd hstop hl
      have hd0 : decide ((m : Int) % 10 < 0) = false := by simp; omega
      have hdb : (m : Int) % 10 < 10 := by omega
      have hdb0 : 0 ≤ (m : Int) % 10 := by omega
      have hu8 : IntKind.u8.wrap (48 + (m : Int) % 10) = 48 + (m : Int) % 10 := IntWalk.u8_in _ ⟨by omega, by omega⟩
      have hs0 := hb.size
      rcases hor with h1 | ⟨h1, h2⟩
      all_goals
        go_wp2_with ((at_builtin; go_loud (refine wpList_append_own _ rfl (.tmp 24) (.tmp 25) 113 rfl w.heap.size 5 i0 _ 1 1 Tryz.underlying113 HI.out HZ0.out HZ1.out HZ2.out rfl (by decide) (.slice (some ⟨wr.heap.size, 0, none⟩) 1 1) 1 [.int .u8 (48 + (m : Int) % 10)] rfl (owns_one wr _ _ hs0) ⟨g, 0, none⟩ out.length c (bv out) rfl (by simp [bv]) ?c1 ?c2 ?c3 ?c4 ?c5 ?_)))
        case c1 => exact fun j u hu => (ho.out.alloc _).cells (g := g) rfl j u hu
        case c2 => intro u hu; simp only [bv, List.mem_map] at hu; obtain ⟨b, _, rfl⟩ := hu; rfl
        case c3 => unfold maxLen; omega
        case c4 => omega
        case c5 => simp only [World.size_alloc]; omega
        intro v' w4 hown' hgrow _
        obtain ⟨g', cap', rfl, hB', hlt'⟩ := hown'.form (by omega)
        have hb4 := (hb.alloc hs0 (.cells #[.int .u8 (48 + (m : Int) % 10)] 5)).grown hgrow (by simp only [World.size_alloc]; omega) (fun k e => by cases e; exact hs0)
        have e1 : Value.int .u8 (48 + (m : Int) % 10) :: bv out = bv (UInt8.ofNat (48 + m % 10) :: out) := by
          have := byte_dig (m % 10) (by omega)
          simp only [bv, List.map_cons, this]
          simp
        rw [e1] at hown'
        have HO := keep hown'
        clear hown' hgrow e1
        go_wp2_with fail
        go_roundw
        case rel => exact ⟨m / 10, UInt8.ofNat (48 + m % 10) :: out, g', cap', by simp, by omega, by simp [Nat.add_comm], hlt', keep (by have := HO.out; simpa [Nat.add_comm] using this), HD, by have := HLN.out; rw [List.length_cons]; exact this, hb4⟩
        case measure =>
          have h9 := HNS.out
          simp [intOf, lenV]
          rcases h9 with h9 | h9
          · split <;> omega
          · rw [if_pos (List.eq_nil_of_length_eq_zero h9)]; omega
end Go.Proofs.YtdkjaffnkgbcnaaGreatDoor
