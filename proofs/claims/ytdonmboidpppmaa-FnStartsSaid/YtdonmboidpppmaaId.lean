/- Plain facts: ways there and back; opposite words. -/
import Derived.Test.YtdonmboidpppmaaIc
import Derived.Test.YtdonmboidpppmaaGf
import Derived.Test.YtdonmboidpppmaaGi
namespace Go.Proofs.Ytdonmboidpppmaa
open Go.RowKit Go.Sort Ieee

theorem Bytes.aft {w w' : World} {a : Option Addr} {n : Nat} (h : Bytes w a n) (hb : Below w.heap.size w w') : Bytes w' a n :=
  h.later hb (fun b o e hn => by
    obtain ⟨b', o', e', hl, _⟩ := h 0 hn
    rw [e] at e'
    injection e' with e'
    injection e' with e'
    omega)

theorem negz_k (k : Nat) : Is single 2147483648 k 0 := by
  have h : single.read 2147483648 = .number true 0 (-149) := by decide +kernel
  exact ⟨true, 0, -149, h, Stands.zero⟩
def negChk (k : Nat) (m : Int) : Bool := if m = 0 then Op.negFloat .f32 (wd single k m) == 2147483648 else Op.negFloat .f32 (wd single k m) == wd single k (-m)
theorem negChk_is {k : Nat} {m : Int} (hk : k ≤ 100) (hm : m.natAbs < 16777216) (h : negChk k m = true) : Is single (Op.negFloat .f32 (wd single k m)) k (-m) := by
  unfold negChk at h
  by_cases hz : m = 0
  · rw [if_pos hz] at h
    have h : Op.negFloat .f32 (wd single k m) = 2147483648 := by simpa using h
    rw [h, hz]
    exact negz_k k
  · rw [if_neg hz] at h
    have h : Op.negFloat .f32 (wd single k m) = wd single k (-m) := by simpa using h
    rw [h]
    exact wd_is single fit_single k _ (by show k + 23 ≤ 149; omega) (by show (-m).natAbs < 16777216; omega)
theorem neg3_all : ∀ n : Fin 57, negChk 3 ((n.val : Int) - 28) = true := by decide +kernel
theorem neg5_all : ∀ n : Fin 769, negChk 5 ((n.val : Int) - 384) = true := by decide +kernel
theorem neg3_is (m : Int) (h : m.natAbs ≤ 28) : Is single (Op.negFloat .f32 (wd single 3 m)) 3 (-m) := by
  have c := neg3_all ⟨(m + 28).toNat, by omega⟩
  rw [show (((m + 28).toNat : Nat) : Int) - 28 = m by omega] at c
  exact negChk_is (by omega) (by omega) c
theorem neg5_is (m : Int) (h : m.natAbs ≤ 384) : Is single (Op.negFloat .f32 (wd single 5 m)) 5 (-m) := by
  have c := neg5_all ⟨(m + 384).toNat, by omega⟩
  rw [show (((m + 384).toNat : Nat) : Int) - 384 = m by omega] at c
  exact negChk_is (by omega) (by omega) c
theorem order_neg3 (n m : Int) (hn : n.natAbs ≤ 28) (hm : m.natAbs ≤ 28) (e : n = -m) : FloatKind.f32.format.order (wd single 3 n) (Op.negFloat .f32 (wd single 3 m)) = some .eq := by
  have h := (wd_is single fit_single 3 n (by decide) (by show n.natAbs < 16777216; omega)).order (neg3_is m hm)
  rw [show FloatKind.f32.format.order (wd single 3 n) (Op.negFloat .f32 (wd single 3 m)) = single.order (wd single 3 n) (Op.negFloat .f32 (wd single 3 m)) from rfl, h, Int.compare_eq_eq.2 e]
theorem order_neg5 (n m : Int) (hn : n.natAbs ≤ 384) (hm : m.natAbs ≤ 384) (e : n = -m) : FloatKind.f32.format.order (wd single 5 n) (Op.negFloat .f32 (wd single 5 m)) = some .eq := by
  have h := (wd_is single fit_single 5 n (by decide) (by show n.natAbs < 16777216; omega)).order (neg5_is m hm)
  rw [show FloatKind.f32.format.order (wd single 5 n) (Op.negFloat .f32 (wd single 5 m)) = single.order (wd single 5 n) (Op.negFloat .f32 (wd single 5 m)) from rfl, h, Int.compare_eq_eq.2 e]

theorem wayI_bound (d : Int) (W : Nat) (h0 : -(8 * (W : Int)) < d) (h1 : d < 8 * (W : Int)) : -(4 * (W : Int)) ≤ wayI d W ∧ wayI d W ≤ 4 * (W : Int) := by
  unfold wayI
  split
  · omega
  · split <;> omega
theorem wayI_back (d : Int) (W : Nat) : wayI (-d) W = -wayI d W := by
  unfold wayI
  split <;> split <;> (try split) <;> (try split) <;> omega
theorem md_way (x y : Int) (W : Nat) : md (x + wayI (md y W - md x W) W) W = md y W := by
  have key : ∃ k : Int, x + wayI (md y W - md x W) W = y + 8 * (W : Int) * k := by
    have ex := Int.mul_ediv_add_emod x (8 * (W : Int))
    have ey := Int.mul_ediv_add_emod y (8 * (W : Int))
    unfold wayI md
    split
    · refine ⟨x / (8 * (W : Int)) - y / (8 * (W : Int)) - 1, ?_⟩
      rw [Int.mul_sub, Int.mul_sub]
      omega
    · split
      · refine ⟨x / (8 * (W : Int)) - y / (8 * (W : Int)) + 1, ?_⟩
        rw [Int.mul_add, Int.mul_sub]
        omega
      · refine ⟨x / (8 * (W : Int)) - y / (8 * (W : Int)), ?_⟩
        rw [Int.mul_sub]
        omega
  obtain ⟨k, hk⟩ := key
  rw [hk]
  unfold md
  exact Int.add_mul_emod_self_left y (8 * (W : Int)) k
theorem not_gtr {k : Nat} {a b : Int} (hk : k ≤ 100) (ha : a.natAbs < 16777216) (hb : b.natAbs < 16777216) (h : a ≤ b) : (FloatKind.f32.format.order (wd single k a) (wd single k b) == some .gt) = false := by
  rw [forder hk ha hb]
  rcases Int.lt_or_eq_of_le h with h | h
  · rw [Int.compare_eq_lt.2 h]; rfl
  · rw [Int.compare_eq_eq.2 h]; rfl
theorem not_lss {k : Nat} {a b : Int} (hk : k ≤ 100) (ha : a.natAbs < 16777216) (hb : b.natAbs < 16777216) (h : b ≤ a) : (FloatKind.f32.format.order (wd single k a) (wd single k b) == some .lt) = false := by
  rw [forder hk ha hb]
  rcases Int.lt_or_eq_of_le h with h | h
  · rw [Int.compare_eq_gt.2 h]; rfl
  · rw [Int.compare_eq_eq.2 h.symm]; rfl
theorem momSum_neg (gs : List GP) : sumOf (momU false) gs = -sumOf (momU true) gs ∧ sumOf (momV false) gs = -sumOf (momV true) gs := by
  rw [← sumOf_neg, ← sumOf_neg]
  constructor
  · congr 1
    funext p
    unfold momU sgn
    simp [Int.neg_mul]
  · congr 1
    funext p
    unfold momV sgn
    simp [Int.neg_mul]
theorem momSum_bound (t : Bool) (gs : List GP) (h : ∀ p ∈ gs, p.ok) (hN : gs.length ≤ 6) : (sumOf (momU t) gs).natAbs ≤ 384 ∧ (sumOf (momV t) gs).natAbs ≤ 384 := by
  have a := sumOf_bound (momU t) 64 gs (fun p hp => (mom_bound t p (h p hp)).1)
  have b := sumOf_bound (momV t) 64 gs (fun p hp => (mom_bound t p (h p hp)).2)
  omega
theorem enSum_bound (gs : List GP) (h : ∀ p ∈ gs, p.ok) (hN : gs.length ≤ 6) : (sumOf enOf gs).natAbs ≤ 6144 := by
  have a := sumOf_bound enOf 1024 gs (fun p hp => (en_bound p (h p hp)).2)
  omega
end Go.Proofs.Ytdonmboidpppmaa
