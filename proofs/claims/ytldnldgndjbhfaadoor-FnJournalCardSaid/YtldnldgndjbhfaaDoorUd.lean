/- Plain facts on eight hexadecimal digits; the library's public ParseUint; readBits. Tables and the errors' variables are premises. -/
import Derived.Test.YtldnldgndjbhfaaDoorUc
namespace Go.Proofs.YtldnldgndjbhfaaDoor
open Go.RowKit Go.Sort
set_option linter.unusedSimpArgs false

/-- So many digits of a number. -/
def pd : Nat → Nat → List UInt8
  | 0, _ => []
  | k + 1, n => pd k (n / 16) ++ [hx (n % 16)]
theorem pd_zero (k : Nat) : pd k 0 = List.replicate k 48 := by
  induction k with
  | zero => rfl
  | succ k ih =>
    show pd k (0 / 16) ++ [hx (0 % 16)] = _
    rw [Nat.zero_div, ih, List.replicate_succ']
    rfl
theorem pd_hexD (k n : Nat) (hk : 1 ≤ k) (h : n < 16 ^ k) : List.replicate (k - (hexD n).length) 48 ++ hexD n = pd k n := by
  induction k generalizing n with
  | zero => omega
  | succ k ih =>
    show _ = pd k (n / 16) ++ [hx (n % 16)]
    by_cases h1 : n < 16
    · rw [hexD_one h1, show n / 16 = 0 by omega, pd_zero, show n % 16 = n by omega]
      rfl
    · rw [hexD_more h1]
      have hk0 : 1 ≤ k := by
        cases k with
        | zero => simp at h; omega
        | succ k => omega
      have h2 : n / 16 < 16 ^ k := by rw [Nat.pow_succ] at h; omega
      rw [← ih (n / 16) hk0 h2, List.length_append, ← List.append_assoc]
      congr 2
      congr 1
      show k + 1 - ((hexD (n / 16)).length + 1) = _
      omega
theorem hex8_pd (n : Nat) (h : n < 4294967296) : hex8 n = pd 8 n := pd_hexD 8 n (by omega) (by omega)
theorem pd_front (k d r : Nat) (hd : d < 16) (hr : r < 16 ^ k) : pd (k + 1) (d * 16 ^ k + r) = hx d :: pd k r := by
  induction k generalizing r with
  | zero =>
    have : r = 0 := by simpa using hr
    subst this
    show pd 0 _ ++ [hx ((d * 1 + 0) % 16)] = [hx d]
    rw [show (d * 1 + 0) % 16 = d by omega]; rfl
  | succ k ih =>
    have e : 16 ^ (k + 1) = 16 ^ k * 16 := Nat.pow_succ ..
    show pd (k + 1) ((d * 16 ^ (k + 1) + r) / 16) ++ [hx ((d * 16 ^ (k + 1) + r) % 16)] = hx d :: (pd k (r / 16) ++ [hx (r % 16)])
    have e1 : d * 16 ^ (k + 1) = (d * 16 ^ k) * 16 := by rw [e, Nat.mul_assoc]
    have e2 : (d * 16 ^ (k + 1) + r) / 16 = d * 16 ^ k + r / 16 := by rw [e1]; omega
    have e3 : (d * 16 ^ (k + 1) + r) % 16 = r % 16 := by rw [e1]; omega
    rw [e2, e3, ih (r / 16) (by rw [e] at hr; omega)]
    rfl
theorem hx_dv : ∀ b : Fin 256, ∀ d : Fin 16, dv (UInt8.ofNat b.val) = some d.val → hx d.val = UInt8.ofNat b.val := by decide +kernel
theorem hx_of {b : UInt8} {d : Nat} (h : dv b = some d) : hx d = b := by
  have hd := dv_lt h
  have hb : b = UInt8.ofNat b.toNat := by simp
  have := hx_dv ⟨b.toNat, b.toNat_lt⟩ ⟨d, hd⟩
  simp only at this
  rw [← hb] at this
  exact this h
theorem dv_hx : ∀ d : Fin 16, dv (hx d.val) = some d.val := by decide +kernel
theorem valF_split (l : List UInt8) (a v : Nat) (h : valF a l = some v) : ∃ r, r < 16 ^ l.length ∧ v = a * 16 ^ l.length + r ∧ l = pd l.length r := by
  induction l generalizing a with
  | nil =>
    have : a = v := Option.some.inj h
    exact ⟨0, by simp, by simp [this], rfl⟩
  | cons b q ih =>
    obtain ⟨d, hd, h2⟩ := valF_cons h
    obtain ⟨r, hr, hv, hq⟩ := ih _ h2
    have hdl := dv_lt hd
    have e : 16 ^ (b :: q).length = 16 ^ q.length * 16 := Nat.pow_succ ..
    refine ⟨d * 16 ^ q.length + r, ?_, ?_, ?_⟩
    · rw [e]
      have := Nat.mul_le_mul_right (16 ^ q.length) (show d ≤ 15 by omega)
      omega
    · rw [hv, e, Nat.add_mul, ← Nat.add_assoc]
      congr 2
      rw [Nat.mul_comm 16 a, Nat.mul_assoc, Nat.mul_comm 16]
    · show b :: q = pd (q.length + 1) _
      rw [pd_front _ _ _ hdl hr, ← hq, hx_of hd]
theorem valF_pd (k a r : Nat) (hr : r < 16 ^ k) : valF a (pd k r) = some (a * 16 ^ k + r) := by
  induction k generalizing a r with
  | zero =>
    have : r = 0 := by simpa using hr
    subst this
    simp [pd, valF]
  | succ k ih =>
    have e : 16 ^ (k + 1) = 16 ^ k * 16 := Nat.pow_succ ..
    have hp : 0 < 16 ^ k := Nat.pow_pos (by omega)
    have hd : r / 16 ^ k < 16 := by rw [Nat.div_lt_iff_lt_mul hp]; omega
    have hs : r = r / 16 ^ k * 16 ^ k + r % 16 ^ k := by rw [Nat.mul_comm]; exact (Nat.div_add_mod r (16 ^ k)).symm
    rw [hs, pd_front k _ _ hd (Nat.mod_lt _ hp)]
    show (match dv (hx (r / 16 ^ k)) with | some d => valF (16 * a + d) (pd k (r % 16 ^ k)) | none => none) = _
    rw [dv_hx ⟨r / 16 ^ k, hd⟩]
    show valF (16 * a + r / 16 ^ k) _ = _
    rw [ih _ _ (Nat.mod_lt _ hp), e, Nat.add_mul, ← Nat.add_assoc]
    congr 3
    rw [Nat.mul_comm 16 a, Nat.mul_assoc, Nat.mul_comm 16]
theorem pd_len (k n : Nat) : (pd k n).length = k := by
  induction k generalizing n with
  | zero => rfl
  | succ k ih => show (pd k (n / 16) ++ [hx (n % 16)]).length = _; simp [ih]
theorem hv8_hex8 (n : Nat) (h : n < 4294967296) : hv8 (hex8 n) = some n := by
  unfold hv8
  rw [hex8_pd n h, if_pos (pd_len 8 n), valF_pd 8 0 n (by omega)]
  simp
theorem hex8_of {l : List UInt8} {v : Nat} (h : hv8 l = some v) : v < 4294967296 ∧ hex8 v = l := by
  unfold hv8 at h
  split at h
  · rename_i h8
    obtain ⟨r, hr, hv, hl⟩ := valF_split l 0 v h
    rw [h8] at hr hv hl
    have hvr : v = r := by omega
    subst hvr
    have hv2 : v < 4294967296 := by
      have e8 : 16 ^ 8 = 4294967296 := by decide
      omega
    exact ⟨hv2, by rw [hex8_pd v hv2, ← hl]⟩
  · cases h

/-- The word of a text that is a number's own. -/
def goodw (l : List UInt8) : Option Nat := (hv8 l).bind fun v => if cb v = v then some v else none

theorem TZ.below {w w' : World} {B : Nat} (h : TZ w) (hb : Below B w w') (hB : w.heap.size ≤ B) : TZ w' := by
  unfold TZ at *
  exact (hb.cell (p := ⟨4, 15, none⟩) (Nat.lt_of_lt_of_le (World.block_lt_of_cell? w _ h) hB)).trans h

/-- What the public ParseUint says. -/
def PS (l : List UInt8) (e : Ending) : Prop := (∃ (m : Nat) (t : TypeId) (p : Value), hv8 l = none ∧ e = .returned (.tuple #[.int .u64 m, .iface t p])) ∨ (∃ m : Nat, m < 4294967296 ∧ (∀ v, hv8 l = some v → m = v) ∧ e = .returned (.tuple #[.int .u64 m, .nilIface]))

/-- What readBits says. -/
def RBs (l : List UInt8) (e : Ending) : Prop := ∃ (x : Nat) (b : Bool), x < 4294967296 ∧ b = (goodw l).isSome ∧ (∀ v, goodw l = some v → x = v) ∧ e = .returned (.tuple #[.float .f32 x, .bool b])

end Go.Proofs.YtldnldgndjbhfaaDoor
