/- Contracts: marks, texts marked and held. -/
import Derived.Test.YtlkilakjjfaamaaDoorTt
import Derived.Deep.RegionLaw
namespace Go.Proofs.YtlkilakjjfaamaaDoor
open Go.RowKit Go.Sort
set_option linter.unusedSimpArgs false

theorem belowD' (B : Nat) (w : World) (n : Nat) : Below B w (w.drewN n) := ⟨rfl, rfl, rfl, Nat.le_refl _, fun _ _ => rfl⟩
/-- The mark of a number. -/
def MT (k : Nat) : ByteArray := tx (109 :: Lib.decDigits k)

set_option maxHeartbeats 4000000 in
theorem markText_any (k : Nat) (w : World) (h1 : 1 ≤ k) (hk : k ≤ 100000) :
    Calls Tryd.prog 12 #[.int .i64 k] w fun e w' => e = .returned (.string (MT k)) ∧ Below w.heap.size w w' := by
  have hk1 : ¬ ((k : Int) ≤ 0) := by omega
  go_enter Tryd.func12, Tryd.ntmps12
  go_wp2_with fail
  go_loopw [0, 3] (fun kk o wr => ∃ (m : Nat) (out : List UInt8), kk = .int .i64 m ∧ m ≤ 100000 ∧ o = .string (tx out) ∧ out.length + m ≤ 100000 ∧ Kept (ddOf m out = Lib.decDigits k) ∧ Kept (m = 0 → out ≠ []) ∧ Below w.heap.size w wr) (fun kk _ _ => (intOf kk).toNat)
  case atStart => exact ⟨k, [], rfl, hk, rfl, by simpa using hk, keep (ddOf_start k), keep (fun h => by omega), Below.refl _ _⟩
  case round =>
    obtain ⟨m, out, rfl, hm, rfl, hl, hd, hz, hb⟩ := hrel
    by_cases h0 : m = 0
    · have hout := hz.out h0
      have HD := keep (show Lib.decDigits k = out by rw [← hd.out, h0, ddOf_done out hout])
      have hm0 : ¬ ((0 : Int) < (m : Int)) := by omega
      have TS := tx_size out
      clear hd hz
      go_wp2_with fail
      go_ret
      exact ⟨by unfold MT; rw [HD.out]; congr 2, hb⟩
    · have hds := keep ((ddOf_step m out (fun h => h0 h.1)).trans hd.out)
      have hm0 : (0 : Int) < (m : Int) := by omega
      have hdb : (m : Int) % 10 < 10 := by omega
      have hdb0 : 0 ≤ (m : Int) % 10 := by omega
      have hu8 : IntKind.u8.wrap (48 + (m : Int) % 10) = 48 + (m : Int) % 10 := IntWalk.u8_in _ ⟨by omega, by omega⟩
      have TS := tx_size out
      have hs0 := hb.size
      clear hd hz
      have e1 : (48 : Int) + (m : Int) % 10 = (((UInt8.ofNat (48 + m % 10)).toNat : Nat) : Int) := by
        rw [byte_dig (m % 10) (by omega)]; omega
      have hcv := run_convert_bytes_back (P := Tryd.prog) (wr.alloc (.cells #[.int .u8 (48 + (m : Int) % 10)] 5)) 45 9 5 ⟨wr.heap.size, 0, none⟩ 1 [UInt8.ofNat (48 + m % 10)] Tryd.underlying45 Tryd.underlying5 Tryd.underlying9 (fun j hj => by
        have h := new_cell (w := wr) (t := 5) (x := .int .u8 (48 + (m : Int) % 10)) j (.int .u8 (48 + (m : Int) % 10)) (by
          have : j = 0 := by simpa using hj
          subst this; rfl)
        rw [h, e1]
        congr 3
        have : j = 0 := by simpa using hj
        subst this; rfl)
      have e2 := keep (show (⟨[UInt8.ofNat (48 + m % 10)].toArray⟩ : ByteArray) ++ tx out = tx (UInt8.ofNat (48 + m % 10) :: out) by
        apply ByteArray.ext; unfold tx; simp)
      rw [e1] at hcv
      generalize UInt8.ofNat (48 + m % 10) = dgt at *
      have hcv : (convert 45 9 (.slice (some ⟨wr.heap.size, 0, none⟩) 1 1)).run Tryd.prog (wr.alloc (.cells #[.int .u8 (dgt.toNat : Int)] 5)) = .ok (.string ⟨#[dgt]⟩) (wr.alloc (.cells #[.int .u8 (dgt.toNat : Int)] 5)) := hcv
      have hdv : Int.tdiv (m : Int) 10 = ((m / 10 : Nat) : Int) := by rw [Int.tdiv_eq_ediv_of_nonneg (by omega)]; omega
      go_wp2_with fail
      go_roundw
      case rel => exact ⟨m / 10, dgt :: out, by go_num, by omega, by rw [← e2.out], by simp; omega, hds, keep (fun _ => by simp), hb.alloc hs0 _⟩
      case measure => simp [intOf]; omega

def marksL (n : Nat) : List ByteArray := (List.range n).map fun i => MT (1 + i)
theorem marksL_len (n : Nat) : (marksL n).length = n := by unfold marksL; simp
theorem marksL_succ (n : Nat) : sv (marksL (n + 1)) = sv (marksL n) ++ [.string (MT (1 + n))] := by
  unfold sv marksL
  rw [List.range_succ]; simp
theorem marksL_at (n i : Nat) (h : i < n) : (sv (marksL n))[i]? = some (.string (MT (1 + i))) := by
  unfold sv marksL
  simp [h]

set_option maxHeartbeats 4000000 in
theorem markStringS_any (A : Option Addr) (n c B : Nat) (xs : List Value) (w : World) (hn : n ≤ 50000) (ho : w.ownsRow B 9 1 (.slice A n c) n xs) (hB : B ≤ w.heap.size) :
    Calls Tryd.prog 7 #[.slice A n c, .int .i64 1] w fun e w' => e = .returned (.int .i64 ((n + 1 : Nat) : Int)) ∧ w'.ownsRow B 9 1 (.slice A n c) n (sv (marksL n)) ∧ Below B w w' := by
  have MK := keep (fun k h1 h2 w => markText_any k w h1 h2)
  have HO := keep ho
  clear ho
  go_enter Tryd.func7, Tryd.ntmps7
  go_wp2_with fail
  go_loopw [1, 5] (fun kk ii wr => ∃ (i : Nat) (ys : List Value), i ≤ n ∧ kk = .int .i64 ((i + 1 : Nat) : Int) ∧ ii = .int .i64 i ∧ Kept (wr.ownsRow B 9 1 (.slice A n c) n ys) ∧ Kept (ys.take i = sv (marksL i)) ∧ Kept (Below B w wr)) (fun _ ii _ => n - (intOf ii).toNat)
  case atStart => exact ⟨0, xs, Nat.zero_le _, rfl, rfl, HO, keep (by simp [sv, marksL]), keep (Below.refl _ _)⟩
  case round =>
    clear HO
    obtain ⟨i, ys, hi, rfl, rfl, ho, ht, hb⟩ := hrel
    by_cases hlt : i < n
    · have hltI : (i : Int) < (n : Int) := by omega
      obtain ⟨g, rfl⟩ : ∃ g, A = some ⟨g, 0, none⟩ := by
        rcases ho.out.2 with ⟨_, h0⟩ | ⟨g, cap, cur, e, _⟩
        · omega
        · injection e with e1; exact ⟨g, e1⟩
      have hsz := hb.out.size
      go_wp2_with fail
      refine (MK.out (i + 1) (by omega) (by omega) _).mono ?_
      rintro e w1 ⟨rfl, hbw⟩
      have O1 := keep (owns_below ho.out hbw)
      have B1 := keep (hb.out.trans (hbw.mono (Nat.le_trans hB hsz)))
      have hyl : ys.length = n := by have := ho.out.1; omega
      have hck : w1.cell? ⟨g, i, none⟩ = ys[i]? := O1.out.cellAt i (by omega)
      rw [List.getElem?_eq_getElem (by omega)] at hck
      have hfr := O1.out.frozenAt i
      have hgl := (O1.out.lt g rfl).1
      have HY := keep hyl
      generalize ys[i] = yi at hck
      rw [show i + 1 = 1 + i from Nat.add_comm i 1]
      generalize hmt : MT (1 + i) = mt at *
      have HM := keep hmt
      clear hyl hbw ho hb MK hmt
      go_wp2_with fail
      go_roundw
      case rel =>
        obtain ⟨o1, g1⟩ := O1.out.stored i (.string mt)
        refine ⟨i + 1, _, by omega, by go_num, by go_num, keep o1, keep ?_, keep (B1.out.setCell (p := ⟨g, i, none⟩) hgl _)⟩
        have hyl := HY.out
        rw [marksL_succ, List.take_succ_eq_append_getElem (by simp; omega), List.take_set_of_le (Nat.le_refl i), ht.out, HM.out]
        simp
      case measure => simp [intOf]; omega
    · obtain rfl : i = n := by omega
      have hys : ys = sv (marksL i) := by
        have h := ht.out
        have hyl := ho.out.1
        rwa [List.take_of_length_le (by omega)] at h
      subst hys
      go_wp2_with fail
      go_ret
      exact ⟨rfl, ho.out, hb.out⟩

set_option maxHeartbeats 4000000 in
theorem heldStringS_any (A : Option Addr) (n c B : Nat) (w : World) (hn : n ≤ 50000) (ho : w.ownsRow B 9 1 (.slice A n c) n (sv (marksL n))) :
    Calls Tryd.prog 8 #[.slice A n c, .int .i64 1] w fun e w' => e = .returned (.int .i64 ((n + 1 : Nat) : Int)) ∧ Below w.heap.size w w' := by
  have MK := keep (fun k h1 h2 w => markText_any k w h1 h2)
  have HO := keep ho
  clear ho
  go_enter Tryd.func8, Tryd.ntmps8
  go_wp2_with fail
  go_loopw [1, 5] (fun kk ii wr => ∃ (i : Nat), i ≤ n ∧ kk = .int .i64 ((i + 1 : Nat) : Int) ∧ ii = .int .i64 i ∧ Kept (Below w.heap.size w wr)) (fun _ ii _ => n - (intOf ii).toNat)
  case atStart => exact ⟨0, Nat.zero_le _, rfl, rfl, keep (Below.refl _ _)⟩
  case round =>
    obtain ⟨i, hi, rfl, rfl, hb⟩ := hrel
    by_cases hlt : i < n
    · have hltI : (i : Int) < (n : Int) := by omega
      obtain ⟨g, rfl⟩ : ∃ g, A = some ⟨g, 0, none⟩ := by
        rcases HO.out.2 with ⟨_, h0⟩ | ⟨g, cap, cur, e, _⟩
        · omega
        · injection e with e1; exact ⟨g, e1⟩
      have hsz := hb.out.size
      have hgl := (HO.out.lt g rfl).2
      have hck : wr.cell? ⟨g, i, none⟩ = some (.string (MT (1 + i))) := by
        have h := HO.out.cellAt i (by omega)
        rw [marksL_at n i hlt] at h
        rw [hb.out.cell (p := ⟨g, i, none⟩) hgl]
        exact h
      have MM := keep (fun w => MK.out (1 + i) (by omega) (by omega) w)
      have HB := keep hb.out
      clear MK hb
      generalize MT (1 + i) = mt at *
      have hck2 : wr.drew.cell? ⟨g, i, none⟩ = some (.string mt) := hck
      rw [show (i + 1 : Nat) = 1 + i from Nat.add_comm i 1]
      go_wp2_with fail
      go_cut [18] (fun s18 wx => s18 = .bool false ∧ Below w.heap.size w wx)
      case first =>
        go_region_law (first
          | (go_simp
             go_at_call 12
             refine (MM.out _).mono ?_
             rintro e w1 ⟨rfl, hbw⟩
             have hck3 := (hbw.cell (p := ⟨g, i, none⟩) (by show g < wr.heap.size; omega)).trans hck2
             have B1 := keep (HB.out.trans ((Below.trans (belowD' wr.heap.size wr 1) hbw).mono hsz))
             clear hbw))
        all_goals
          go_wp2_with fail
          go_meet
          exact ⟨by simp, B1.out⟩
      case rest =>
        obtain ⟨rfl, hbc⟩ := hcut
        have BC := keep hbc
        clear hbc
        go_wp2_with fail
        go_roundw
        case rel => exact ⟨i + 1, by omega, by go_num, by go_num, BC⟩
        case measure => simp [intOf]; omega
    · obtain rfl : i = n := by omega
      go_wp2_with fail
      go_ret
      exact ⟨rfl, hb.out⟩
end Go.Proofs.YtlkilakjjfaamaaDoor
