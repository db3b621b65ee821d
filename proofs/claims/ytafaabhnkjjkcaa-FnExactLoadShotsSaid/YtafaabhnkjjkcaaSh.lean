/- What is known of a cloud at a place; the check bytes behind it, held against a text's. -/
import Derived.Test.YtafaabhnkjjkcaaSg
namespace Go.Proofs.Ytafaabhnkjjkcaa
open Go.RowKit Go.Sort

theorem PD.ok_fin (p : PD) (h : p.ok = true) : p.fin = true := fin_of_ok p h
theorem good_facts (s : ByteArray) (p : Nat) (hg : goodAt s p = true) :
    p + 15 ≤ s.size ∧ endAt s p ≤ s.size ∧ nAt s p ≤ 48 ∧ (psAt s p (nAt s p)).all PD.ok = true ∧ fin .f32 (numAt s (p + 6)) = true ∧ fin .f32 (numAt s (p + 10)) = true := by
  unfold goodAt at hg
  simp only [Bool.and_eq_true, decide_eq_true_eq] at hg
  obtain ⟨⟨⟨⟨h1, hm⟩, h2⟩, h3⟩, h4⟩ := hg
  unfold okCloud at h4
  simp only [Bool.and_eq_true, decide_eq_true_eq] at h4
  obtain ⟨⟨_, hn⟩, hm, hb⟩ := h4
  exact ⟨h1, h2, hn, h3, hm, hb⟩
theorem numAt_lt (s : ByteArray) (q : Nat) : (numAt s q : Int) < two32 := by
  unfold numAt two32
  simp only [Lib.leNat]
  have h0 := (s.data.getD q 0).toNat_lt
  have h1 := (s.data.getD (q + 1) 0).toNat_lt
  have h2 := (s.data.getD (q + 2) 0).toNat_lt
  have h3 := (s.data.getD (q + 3) 0).toNat_lt
  omega
theorem okN_at (s : ByteArray) (q : Nat) (h : fin .f32 (numAt s q) = true) : okN (numAt s q) := ⟨numAt_lt s q, h⟩
theorem okN_pd (s : ByteArray) (q : Nat) (h : (pdAt s q).ok = true) : (pdAt s q).okN := by
  have hf := PD.ok_fin _ h
  unfold PD.fin finP finC at hf
  simp only [Bool.and_eq_true] at hf
  obtain ⟨⟨⟨h0, h1⟩, h2, h3⟩, h4, h5⟩ := hf
  exact ⟨okN_at _ _ h0, okN_at _ _ h1, okN_at _ _ h2, okN_at _ _ h3, okN_at _ _ h4, okN_at _ _ h5⟩
theorem okN_ps (s : ByteArray) (p n : Nat) (h : (psAt s p n).all PD.ok = true) : ∀ x ∈ psAt s p n, x.okN := by
  intro x hx
  have h2 := List.all_eq_true.1 h x hx
  obtain ⟨i, _, rfl⟩ := List.mem_map.1 hx
  exact okN_pd s _ h2

theorem list_take (s : ByteArray) (e : Nat) : (s.extract 0 e).data.toList = s.data.toList.take e := by
  rw [ByteArray.data_extract, Array.toList_extract]
  simp [List.extract]
theorem ckAt_take (s : ByteArray) (e : Nat) (h : e ≤ s.size) : ckAt (s.extract 0 e) (s.extract 0 e).size = ckAt s e := by
  have hz := extract_size s 0 e h
  unfold ckAt
  rw [hz, list_take, List.take_take]
  simp
theorem two_list (s : ByteArray) (e n : Nat) (h : e + 2 ≤ s.size) (hn : n ≤ 65002) : (twoB n = s.extract e (e + 2)) ↔ (byteAt s e = n % 256 ∧ byteAt s (e + 1) = n / 256) := by
  have hl := list_extract s e 2 h
  have e2 : (List.range 2).map (fun i => s.data.getD (e + i) 0) = [s.data.getD e 0, s.data.getD (e + 1) 0] := rfl
  rw [e2] at hl
  constructor
  · intro hh
    have h2 : two n = [s.data.getD e 0, s.data.getD (e + 1) 0] := by rw [← hl, ← hh]; rfl
    unfold two at h2
    injection h2 with a h3
    injection h3 with b _
    unfold byteAt
    rw [← a, ← b, UInt8.toNat_ofNat', UInt8.toNat_ofNat']
    omega
  · rintro ⟨a, b⟩
    apply bytes_eq
    rw [hl]
    show [UInt8.ofNat (n % 256), UInt8.ofNat (n / 256)] = _
    rw [← a, ← b, byteAt_of, byteAt_of]
theorem append_cancel {a b c : ByteArray} : a ++ b = a ++ c ↔ b = c := by
  constructor
  · intro h
    apply ByteArray.ext
    have h2 := congrArg ByteArray.data h
    rw [ByteArray.data_append, ByteArray.data_append] at h2
    have h3 := congrArg Array.toList h2
    rw [Array.toList_append, Array.toList_append] at h3
    exact Array.toList_inj.1 (List.append_cancel_left h3)
  · rintro rfl; rfl
theorem ckOk_iff (s : ByteArray) (e : Nat) (h : e + 2 ≤ s.size) : ckOk s e = true ↔ twoB (ckAt s e) = s.extract e (e + 2) := by
  rw [two_list s e _ h (ckAt_bound s e).1]
  unfold ckOk
  simp [h]
/-- The reference's bytes of a cloud and its check number are the text's exactly if the text's check bytes are right. -/
theorem frame_eq (s : ByteArray) (p : Nat) (h : endAt s p + 2 ≤ s.size) :
    ((frameB (s.extract 0 p) (s.extract p (endAt s p))).toList == (s.extract p (endAt s p + 2)).toList) = ckOk s (endAt s p) := by
  have hpe : p ≤ endAt s p := by unfold endAt; omega
  rw [Bool.eq_iff_iff, beq_iff_eq, ckOk_iff s _ h, Lib.toList_data, Lib.toList_data]
  unfold frameB
  rw [seg s 0 p _ (by omega) hpe, ckAt_take s _ (by omega), ← seg s p (endAt s p) (endAt s p + 2) hpe (by omega)]
  constructor
  · intro hh; exact append_cancel.1 (bytes_eq hh)
  · intro hh; rw [hh]
/-- The program's test of the check bytes. -/
theorem prefix_eq (s : ByteArray) (e : Nat) (he : e ≤ s.size) : Lib.hasPrefix (s.extract e s.size).data.toList (twoB (ckAt s e)).data.toList = ckOk s e := by
  have hr := Lib.hasPrefix_raw (s.extract e s.size) (twoB (ckAt s e))
  have hz := extract_size s e s.size (Nat.le_refl _)
  rw [hz, twoB_size] at hr
  by_cases h : e + 2 ≤ s.size
  · rw [← hr, show decide (2 ≤ s.size - e) = true by simp; omega]
    rw [Bool.eq_iff_iff, ckOk_iff s e h]
    have e2 : (s.extract e s.size).extract 0 2 = s.extract e (e + 2) := by
      apply ByteArray.ext
      rw [ByteArray.data_extract, ByteArray.data_extract, ByteArray.data_extract, Array.extract_extract]
      congr 1
      omega
    simp only [Bool.true_and, e2, beq_iff_eq, Lib.toList_data]
    constructor
    · intro hh; exact (bytes_eq hh).symm
    · intro hh; rw [hh]
  · rw [← hr, show decide (2 ≤ s.size - e) = false by simp; omega]
    unfold ckOk
    rw [show decide (e + 2 ≤ s.size) = false by simp; omega]
    rfl
end Go.Proofs.Ytafaabhnkjjkcaa
