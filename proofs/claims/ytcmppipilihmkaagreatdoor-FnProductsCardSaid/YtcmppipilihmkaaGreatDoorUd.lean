/- Plain facts on eight hexadecimal digits; the library's public ParseUint; readBits. Tables and the errors' variables are premises. -/
import Derived.Test.YtcmppipilihmkaaGreatDoorUc
namespace Go.Proofs.YtcmppipilihmkaaGreatDoor
open Go.RowKit Go.Sort
set_option linter.unusedSimpArgs false

/-- So many digits of a number. -/
def pd : Nat → Nat → List UInt8
  | 0, _ => []
  | k + 1, n => pd k (n / 16) ++ [hx (n % 16)]
theorem pd_zero (k : Nat) : pd k 0 = List.replicate k 48 := by
  induction k with
  | zero => rfl
  | succ k ih =>
    show pd k (0 / 16) ++ [hx (0 % 16)] = _
    rw [Nat.zero_div, ih, List.replicate_succ']
    rfl
theorem pd_hexD (k n : Nat) (hk : 1 ≤ k) (h : n < 16 ^ k) : List.replicate (k - (hexD n).length) 48 ++ hexD n = pd k n := by
  induction k generalizing n with
  | zero => omega
  | succ k ih =>
    show _ = pd k (n / 16) ++ [hx (n % 16)]
    by_cases h1 : n < 16
    · rw [hexD_one h1, show n / 16 = 0 by omega, pd_zero, show n % 16 = n by omega]
      rfl
    · rw [hexD_more h1]
      have hk0 : 1 ≤ k := by
        cases k with
        | zero => simp at h; omega
        | succ k => omega
      have h2 : n / 16 < 16 ^ k := by rw [Nat.pow_succ] at h; omega
      rw [← ih (n / 16) hk0 h2, List.length_append, ← List.append_assoc]
      congr 2
      congr 1
      show k + 1 - ((hexD (n / 16)).length + 1) = _
      omega
theorem hex8_pd (n : Nat) (h : n < 4294967296) : hex8 n = pd 8 n := pd_hexD 8 n (by omega) (by omega)
theorem pd_front (k d r : Nat) (hd : d < 16) (hr : r < 16 ^ k) : pd (k + 1) (d * 16 ^ k + r) = hx d :: pd k r := by
  induction k generalizing r with
  | zero =>
    have : r = 0 := by simpa using hr
    subst this
    show pd 0 _ ++ [hx ((d * 1 + 0) % 16)] = [hx d]
    rw [show (d * 1 + 0) % 16 = d by omega]; rfl
  | succ k ih =>
    have e : 16 ^ (k + 1) = 16 ^ k * 16 := Nat.pow_succ ..
    show pd (k + 1) ((d * 16 ^ (k + 1) + r) / 16) ++ [hx ((d * 16 ^ (k + 1) + r) % 16)] = hx d :: (pd k (r / 16) ++ [hx (r % 16)])
    have e1 : d * 16 ^ (k + 1) = (d * 16 ^ k) * 16 := by rw [e, Nat.mul_assoc]
    have e2 : (d * 16 ^ (k + 1) + r) / 16 = d * 16 ^ k + r / 16 := by rw [e1]; omega
    have e3 : (d * 16 ^ (k + 1) + r) % 16 = r % 16 := by rw [e1]; omega
    rw [e2, e3, ih (r / 16) (by rw [e] at hr; omega)]
    rfl
theorem hx_dv : ∀ b : Fin 256, ∀ d : Fin 16, dv (UInt8.ofNat b.val) = some d.val → hx d.val = UInt8.ofNat b.val := by decide +kernel
theorem hx_of {b : UInt8} {d : Nat} (h : dv b = some d) : hx d = b := by
  have hd := dv_lt h
  have hb : b = UInt8.ofNat b.toNat := by simp
  have := hx_dv ⟨b.toNat, b.toNat_lt⟩ ⟨d, hd⟩
  simp only at this
  rw [← hb] at this
  exact this h
theorem dv_hx : ∀ d : Fin 16, dv (hx d.val) = some d.val := by decide +kernel
theorem valF_split (l : List UInt8) (a v : Nat) (h : valF a l = some v) : ∃ r, r < 16 ^ l.length ∧ v = a * 16 ^ l.length + r ∧ l = pd l.length r := by
  induction l generalizing a with
  | nil =>
    have : a = v := Option.some.inj h
    exact ⟨0, by simp, by simp [this], rfl⟩
  | cons b q ih =>
    obtain ⟨d, hd, h2⟩ := valF_cons h
    obtain ⟨r, hr, hv, hq⟩ := ih _ h2
    have hdl := dv_lt hd
    have e : 16 ^ (b :: q).length = 16 ^ q.length * 16 := Nat.pow_succ ..
    refine ⟨d * 16 ^ q.length + r, ?_, ?_, ?_⟩
    · rw [e]
      have := Nat.mul_le_mul_right (16 ^ q.length) (show d ≤ 15 by omega)
      omega
    · rw [hv, e, Nat.add_mul, ← Nat.add_assoc]
      congr 2
      rw [Nat.mul_comm 16 a, Nat.mul_assoc, Nat.mul_comm 16]
    · show b :: q = pd (q.length + 1) _
      rw [pd_front _ _ _ hdl hr, ← hq, hx_of hd]
theorem valF_pd (k a r : Nat) (hr : r < 16 ^ k) : valF a (pd k r) = some (a * 16 ^ k + r) := by
  induction k generalizing a r with
  | zero =>
    have : r = 0 := by simpa using hr
    subst this
    simp [pd, valF]
  | succ k ih =>
    have e : 16 ^ (k + 1) = 16 ^ k * 16 := Nat.pow_succ ..
    have hp : 0 < 16 ^ k := Nat.pow_pos (by omega)
    have hd : r / 16 ^ k < 16 := by rw [Nat.div_lt_iff_lt_mul hp]; omega
    have hs : r = r / 16 ^ k * 16 ^ k + r % 16 ^ k := by rw [Nat.mul_comm]; exact (Nat.div_add_mod r (16 ^ k)).symm
    rw [hs, pd_front k _ _ hd (Nat.mod_lt _ hp)]
    show (match dv (hx (r / 16 ^ k)) with | some d => valF (16 * a + d) (pd k (r % 16 ^ k)) | none => none) = _
    rw [dv_hx ⟨r / 16 ^ k, hd⟩]
    show valF (16 * a + r / 16 ^ k) _ = _
    rw [ih _ _ (Nat.mod_lt _ hp), e, Nat.add_mul, ← Nat.add_assoc]
    congr 3
    rw [Nat.mul_comm 16 a, Nat.mul_assoc, Nat.mul_comm 16]
theorem pd_len (k n : Nat) : (pd k n).length = k := by
  induction k generalizing n with
  | zero => rfl
  | succ k ih => show (pd k (n / 16) ++ [hx (n % 16)]).length = _; simp [ih]
theorem hv8_hex8 (n : Nat) (h : n < 4294967296) : hv8 (hex8 n) = some n := by
  unfold hv8
  rw [hex8_pd n h, if_pos (pd_len 8 n), valF_pd 8 0 n (by omega)]
  simp
theorem hex8_of {l : List UInt8} {v : Nat} (h : hv8 l = some v) : v < 4294967296 ∧ hex8 v = l := by
  unfold hv8 at h
  split at h
  · rename_i h8
    obtain ⟨r, hr, hv, hl⟩ := valF_split l 0 v h
    rw [h8] at hr hv hl
    have hvr : v = r := by omega
    subst hvr
    have hv2 : v < 4294967296 := by
      have e8 : 16 ^ 8 = 4294967296 := by decide
      omega
    exact ⟨hv2, by rw [hex8_pd v hv2, ← hl]⟩
  · cases h

/-- The word of a text that is a number's own. -/
def goodw (l : List UInt8) : Option Nat := (hv8 l).bind fun v => if cb v = v then some v else none

/-- The errors' variables hold errors. -/
def ER (w : World) : Prop := ∃ t1 p1 t2 p2, w.cell? ⟨2, 0, none⟩ = some (.iface t1 p1) ∧ w.cell? ⟨3, 0, none⟩ = some (.iface t2 p2)
theorem ER.below {w w' : World} {B : Nat} (h : ER w) (hb : Below B w w') (hB : w.heap.size ≤ B) : ER w' := by
  obtain ⟨t1, p1, t2, p2, h1, h2⟩ := h
  exact ⟨t1, p1, t2, p2, (hb.cell (p := ⟨2, 0, none⟩) (Nat.lt_of_lt_of_le (World.block_lt_of_cell? w _ h1) hB)).trans h1, (hb.cell (p := ⟨3, 0, none⟩) (Nat.lt_of_lt_of_le (World.block_lt_of_cell? w _ h2) hB)).trans h2⟩
theorem TZ.below {w w' : World} {B : Nat} (h : TZ w) (hb : Below B w w') (hB : w.heap.size ≤ B) : TZ w' := by
  unfold TZ at *
  exact (hb.cell (p := ⟨8, 15, none⟩) (Nat.lt_of_lt_of_le (World.block_lt_of_cell? w _ h) hB)).trans h

/-- What the public ParseUint says. -/
def PS (l : List UInt8) (e : Ending) : Prop := (∃ (m : Nat) (t : TypeId) (p : Value), hv8 l = none ∧ e = .returned (.tuple #[.int .u64 m, .iface t p])) ∨ (∃ m : Nat, m < 4294967296 ∧ (∀ v, hv8 l = some v → m = v) ∧ e = .returned (.tuple #[.int .u64 m, .nilIface]))

set_option maxHeartbeats 4000000 in
theorem ParseUint_16 (l : List UInt8) (w : World) (hmax : l.length ≤ 1100000) (her : ER w) :
    Calls Tryz.prog 90 #[.string (tx l), .int .i64 16, .int .i64 32] w fun e w' => PS l e ∧ Below w.heap.size w w' := by
  have IP : Calls Tryz.prog 100 #[.string (tx l), .int .i64 16, .int .i64 32] w fun e w' => PU l e ∧ Below w.heap.size w w' := by
    by_cases hne : l = []
    · subst hne
      refine (Tryz.internal_strconv_ParseUint_empty 16 32 w).mono ?_
      rintro e w' ⟨rfl, rfl⟩
      exact ⟨.inl ⟨0, 2, .inr rfl, rfl, rfl⟩, Below.refl _ _⟩
    · exact iParseUint_16 l w hne hmax
  have IP := keep IP
  have HE := keep her
  have TS := tx_size l
  clear her
  go_enter Tryz.func90, Tryz.ntmps90
  go_wp2_with fail
  refine IP.out.mono ?_
  rintro e w1 ⟨hpu, hb⟩
  have HB := keep hb
  have HE1 := HE.out.below hb (Nat.le_refl _)
  obtain ⟨t1, p1, t2, p2, e1, e2⟩ := HE1
  clear hb
  rcases hpu with ⟨m, k, hk, hn, rfl⟩ | ⟨m, hm, hv, rfl⟩
  · have HN := keep hn
    clear hn
    rcases hk with rfl | rfl
    · have TE := keep (fun fn => Tryz.strconv_toError_range fn (tx l) 16 32 (.iface t2 p2) w1 (by omega) e2 (.inr ⟨_, _, rfl⟩))
      go_wp2_with fail
      refine (TE.out _).mono ?_
      rintro e w2 ⟨N, rfl, _, _, hb2⟩
      have HB2 := keep (HB.out.trans (hb2.mono HB.out.size))
      clear hb2
      go_wp2_with fail
      go_ret2
      exact ⟨.inl ⟨m, _, _, HN.out, rfl⟩, HB2.out⟩
    · have TE := keep (fun fn => Tryz.strconv_toError_syntax fn (tx l) 16 32 (.iface t1 p1) w1 (by omega) e1 (.inr ⟨_, _, rfl⟩))
      go_wp2_with fail
      refine (TE.out _).mono ?_
      rintro e w2 ⟨N, rfl, _, _, hb2⟩
      have HB2 := keep (HB.out.trans (hb2.mono HB.out.size))
      clear hb2
      go_wp2_with fail
      go_ret2
      exact ⟨.inl ⟨m, _, _, HN.out, rfl⟩, HB2.out⟩
  · have HV := keep hv
    clear hv
    go_wp2_with fail
    go_ret2
    exact ⟨.inr ⟨m, hm, HV.out, rfl⟩, HB.out⟩

/-- What readBits says. -/
def RBs (l : List UInt8) (e : Ending) : Prop := ∃ (x : Nat) (b : Bool), x < 4294967296 ∧ b = (goodw l).isSome ∧ (∀ v, goodw l = some v → x = v) ∧ e = .returned (.tuple #[.float .f32 x, .bool b])

set_option maxHeartbeats 4000000 in
theorem readBits_any (l : List UInt8) (w : World) (hmax : l.length ≤ 1100000) (her : ER w) (htz : TZ w) :
    Calls Tryz.prog 70 #[.string (tx l)] w fun e w' => RBs l e ∧ Below w.heap.size w w' := by
  have PP := keep (ParseUint_16 l w hmax her)
  have HZ := keep htz
  clear her htz
  go_enter Tryz.func70, Tryz.ntmps70
  go_wp2_with fail
  refine PP.out.mono ?_
  rintro e w1 ⟨hps, hb⟩
  have HB := keep hb
  have HZ1 := keep (HZ.out.below hb (Nat.le_refl _))
  clear hb
  rcases hps with ⟨m, t, p, hn, rfl⟩ | ⟨m, hm, hv, rfl⟩
  · have HN := keep (show goodw l = none by unfold goodw; rw [hn]; rfl)
    clear hn
    go_wp2_with fail
    go_ret2
    exact ⟨⟨0, false, by omega, by rw [HN.out]; rfl, (fun v h => by rw [HN.out] at h; cases h), rfl⟩, HB.out⟩
  · have HV := keep hv
    have rf := run_frombits' (m : Int)
    rw [Int.toNat_natCast] at rf
    have wm : IntKind.u32.wrap (m : Int) = (m : Int) := IntWalk.u32_in _ ⟨by omega, by omega⟩
    have BT := keep (bitsText_any m w1 hm HZ1.out)
    clear hv
    go_wp2_with fail
    refine BT.out.mono ?_
    rintro e w2 ⟨rfl, hb2⟩
    have HB2 := keep (HB.out.trans (hb2.mono HB.out.size))
    clear hb2
    have k1 : (tx (hex8 (cb m))).toList = (hex8 (cb m)) := by rw [Lib.toList_data, tx_bytes]
    have k2 : (tx l).toList = l := by rw [Lib.toList_data, tx_bytes]
    have hc : cb m < 4294967296 := by unfold cb; split <;> omega
    go_wp2_with fail
    go_ret2
    have gw : ∀ v, goodw l = some v → m = v ∧ hex8 (cb m) = l := by
      intro v hv
      unfold goodw at hv
      cases hl : hv8 l with
      | none => rw [hl] at hv; cases hv
      | some u =>
        rw [hl] at hv
        have e1 := HV.out u hl
        subst e1
        have e2 : (if cb m = m then some m else none) = some v := hv
        split at e2
        · rename_i e3
          have e4 : m = v := Option.some.inj e2
          exact ⟨e4, by rw [e3]; exact (hex8_of hl).2⟩
        · cases e2
    have gi : (hex8 (cb m) == l) = (goodw l).isSome := by
      cases hg : goodw l with
      | some v => rw [(gw v hg).2]; simp
      | none =>
        show (hex8 (cb m) == l) = false
        rw [Bool.eq_false_iff]
        intro hh
        have hh2 : hex8 (cb m) = l := by simpa using hh
        have hl : hv8 l = some (cb m) := by rw [← hh2]; exact hv8_hex8 _ hc
        have e1 := HV.out _ hl
        unfold goodw at hg
        rw [hl] at hg
        have e2 : (if cb (cb m) = cb m then some (cb m) else none) = none := hg
        rw [← e1, ← e1] at e2
        simp at e2
    exact ⟨⟨m, _, hm, gi, fun v hv => (gw v hv).1, rfl⟩, HB2.out⟩
end Go.Proofs.YtcmppipilihmkaaGreatDoor
