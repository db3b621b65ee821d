/- Contracts of the laws' own helpers over slices of clouds: marks are laid, and are held. -/
import Derived.Test.YtafaabhnkjjkcaaSk
namespace Go.Proofs.Ytafaabhnkjjkcaa
open Go.RowKit Go.Sort

theorem OwnS.free {w : World} {B g n c : Nat} {xs : List (CD × Value)} (h : OwnS w B (.slice (some ⟨g, 0, none⟩) n c) xs) (j : Nat) : w.frozen? ⟨g, j, none⟩ = false := by
  rcases h.row.2 with ⟨h', _⟩ | ⟨g', cap, cur, h', _, hg, _⟩
  · cases h'
  · injection h' with h1 _ _
    injection h1 with h1
    injection h1 with h1 _ _
    subst h1
    exact (show Has w g 34 cur from hg).free j
theorem OwnS.mid {w w2 : World} {B g c : Nat} {xs : List (CD × Value)} (h : OwnS w B (.slice (some ⟨g, 0, none⟩) xs.length c) xs) (i : Nat) (hi : i < xs.length) (a b : Value)
    (hg : ((w.setCell ⟨g, i * 5, none⟩ a).setCell ⟨g, i * 5 + 1, none⟩ b).grownBy w2 xs[i].2.ownBlock) :
    (∃ x, w2.cell? ⟨g, i * 5 + 3, none⟩ = some x) ∧ (∃ x, w2.cell? ⟨g, i * 5 + 4, none⟩ = some x) ∧ ∀ j, w2.frozen? ⟨g, j, none⟩ = false := by
  have r0 : RowsS w B g c xs (cCells xs) := ⟨h.row, h.each⟩
  have r1 := (r0.store (i * 5) a).store (i * 5 + 1) b
  have rrow := owns_other r1.row hg (fun g' e => by
    injection e with e
    subst e
    intro e2
    exact rows_ne r0.row (r0.each i hi) g e2 rfl)
  have hl : ∀ j, j < xs.length * 5 → ∃ x, w2.cell? ⟨g, j, none⟩ = some x := fun j hj => by
    have hlen : (((cCells xs).set (i * 5) a).set (i * 5 + 1) b).length = xs.length * 5 := by simp [cCells_length]
    exact ⟨_, owns5_cell rrow (List.getElem?_eq_getElem (by rw [hlen]; exact hj))⟩
  refine ⟨hl _ (by omega), hl _ (by omega), fun j => ?_⟩
  rcases rrow.2 with ⟨h', _⟩ | ⟨g', cap, cur, h', _, hg', _⟩
  · cases h'
  · injection h' with h1 _ _
    injection h1 with h1
    injection h1 with h1 _ _
    subst h1
    exact (show Has w2 g 34 cur from hg').free j

theorem mark_pack {wr : World} {B c k K : Nat} {a : Option Addr} {xs : List (CD × Value)} (i : Nat) (hK : K = kAt i k xs) (how : OwnS wr B (.slice a xs.length c) (markL i k xs)) (h : i < xs.length) (hf : ∀ x ∈ xs, x.1.ps.length ≤ 48) :
    ∃ (L : List (CD × Value)), L.length = xs.length ∧ OwnS wr B (.slice a L.length c) L ∧ ∃ (hi : i < L.length), L.set i (markCD K L[i].1.ps.length, L[i].2) = markL (i + 1) k xs ∧ kAt (i + 1) k xs = K + 4 + 4 * L[i].1.ps.length ∧ L[i].1.ps.length ≤ 48 := by
  have hL := markL_length i k xs
  have hi : i < (markL i k xs).length := by omega
  have hat := markL_at i k xs h
  refine ⟨markL i k xs, hL, by rw [hL]; exact how, hi, ?_, ?_, ?_⟩
  · rw [hat, hK]; exact markL_set i k xs h
  · rw [hat, hK]; exact kAt_succ i k xs h
  · rw [hat]; exact hf _ (List.getElem_mem h)

theorem mark_step {w w2 : World} {B g c : Nat} {xs : List (CD × Value)} (h : OwnS w B (.slice (some ⟨g, 0, none⟩) xs.length c) xs) (i : Nat) (hi : i < xs.length) (K r : Nat) (hr : K + 2 + 4 * xs[i].1.ps.length = r)
    (hg : ((w.setCell ⟨g, i * 5, none⟩ (.int .i64 K)).setCell ⟨g, i * 5 + 1, none⟩ (.int .i64 ((K : Int) + 1))).grownBy w2 xs[i].2.ownBlock) (hp : w2.ownsRow B 25 4 xs[i].2 xs[i].1.ps.length (psCells (marksFrom (K + 2) xs[i].1.ps.length))) :
    OwnS ((w2.setCell ⟨g, i * 5 + 3, none⟩ (.float .f32 (floatOfInt .f32 r))).setCell ⟨g, i * 5 + 4, none⟩ (.float .f32 (floatOfInt .f32 ((r : Int) + 1)))) B (.slice (some ⟨g, 0, none⟩) xs.length c) (xs.set i (markCD K xs[i].1.ps.length, xs[i].2)) ∧
      Below B w ((w2.setCell ⟨g, i * 5 + 3, none⟩ (.float .f32 (floatOfInt .f32 r))).setCell ⟨g, i * 5 + 4, none⟩ (.float .f32 (floatOfInt .f32 ((r : Int) + 1)))) ∧
      KeepsShots w ((w2.setCell ⟨g, i * 5 + 3, none⟩ (.float .f32 (floatOfInt .f32 r))).setCell ⟨g, i * 5 + 4, none⟩ (.float .f32 (floatOfInt .f32 ((r : Int) + 1)))) := by
  have hl : (markCD K xs[i].1.ps.length).ps.length = xs[i].1.ps.length := by simp [markCD, marksFrom_length]
  have e1 : (markCD K xs[i].1.ps.length).mg = floatOfInt .f32 r := by rw [← hr]; rfl
  have e2 : (markCD K xs[i].1.ps.length).bk = floatOfInt .f32 ((r : Int) + 1) := by
    rw [show ((r : Int) + 1) = ((K + 3 + 4 * xs[i].1.ps.length : Nat) : Int) by omega]
    rfl
  have S := h.step (w2 := w2) i hi (markCD K xs[i].1.ps.length) hl hg (by rw [hl]; exact hp)
  rw [e1, e2] at S
  exact S

set_option maxHeartbeats 4000000 in
set_option maxRecDepth 20000 in
theorem markCloudS_any (B : Nat) (v : Value) (xs : List (CD × Value)) (k : Nat) (w : World) (ho : OwnS w B v xs) (hf : ∀ x ∈ xs, x.1.ps.length ≤ 48) (hN : xs.length ≤ 8) (hk : k ≤ 10) :
    Calls Try.prog 51 #[v, .int .i64 k] w fun e w' => e = .returned (.int .i64 (kAt xs.length k xs)) ∧ OwnS w' B v (markL xs.length k xs) ∧ Below B w w' ∧ KeepsShots w w' := by
  obtain ⟨a, c, rfl⟩ := owns_slice ho.row
  have HK := keep (fun i => kAt_le i k xs hf)
  have HF := keep hf
  have HO := keep ho
  clear ho hf
  go_enter Try.func51, Try.ntmps51
  go_wp2_with fail
  go_loopw [1, 5] (fun t s wr => ∃ i K : Nat, i ≤ xs.length ∧ K < 1590 ∧ t = .int .i64 K ∧ s = .int .i64 i ∧ Kept (K = kAt i k xs) ∧ Kept (OwnS wr B (.slice a xs.length c) (markL i k xs)) ∧ Below B w wr ∧ Kept (KeepsShots w wr)) (fun _ s _ => xs.length - (intOf s).toNat)
  case atStart => exact ⟨0, k, Nat.zero_le _, by omega, rfl, rfl, keep rfl, keep HO.out, Below.refl _ _, keep (KeepsShots.refl _)⟩
  case round =>
    obtain ⟨i, K, hi, hK, rfl, rfl, hKe, how, hbr, hks⟩ := hrel
    by_cases hlt : i < xs.length
    case neg =>
      obtain rfl : i = xs.length := by omega
      go_wp2_with fail
      go_ret
      exact ⟨ret_int (by rw [hKe.out]), how.out, hbr, hks.out⟩
    case pos =>
      obtain ⟨L, hL, ho2, hi2, hset, hsucc, h48⟩ := mark_pack i hKe.out how.out hlt HF.out
      have hb1 := HK.out i
      have hb2 := HK.out (i + 1)
      rw [← hKe.out] at hb1
      obtain ⟨g, rfl, hBg, hgl⟩ := owns_at ho2.row (by omega)
      have a0 : wr.cell? ⟨g, i * 5, none⟩ = some (.int .i64 L[i].1.wd) := ho2.cell i hi2 0 _ (by omega) rfl
      have a1 : wr.cell? ⟨g, i * 5 + 1, none⟩ = some (.int .i64 L[i].1.hg) := ho2.cell i hi2 1 _ (by omega) rfl
      have a2 : wr.cell? ⟨g, i * 5 + 2, none⟩ = some L[i].2 := ho2.cell i hi2 2 _ (by omega) rfl
      have ff := ho2.free
      have r0 : RowsS wr B g c L (cCells L) := ⟨ho2.row, ho2.each⟩
      have r1 := (r0.store (i * 5) (.int .i64 K)).store (i * 5 + 1) (.int .i64 ((K : Int) + 1))
      have M := keep (fun (z : Int) (hz : z = ((K + 2 : Nat) : Int)) => hz ▸ markParticleS_any B L[i].2 L[i].1.ps (K + 2) _ (r1.each i hi2) (by omega))
      have HS := keep hset
      have HU := keep hsucc
      have HO2 := keep ho2
      have HL := keep hL
      have hK2 : K + 2 + 4 * L[i].1.ps.length + 2 < 1590 := by omega
      have hK3 : kAt (i + 1) k xs < 1590 := by omega
      clear r0 r1 hset hsucc ho2 hL how
      have hmid := keep (fun w2 hg => HO2.out.mid (w2 := w2) i hi2 (.int .i64 K) (.int .i64 ((K : Int) + 1)) hg)
      have hkk : (0 : Int) ≤ (i : Int) := by omega
      have hkl : (i : Int) < (xs.length : Int) := by omega
      obtain ⟨r, hr⟩ : ∃ r : Nat, K + 2 + 4 * L[i].1.ps.length = r := ⟨_, rfl⟩
      have hrI : r + 2 < 1590 := by omega
      have hrk : r + 2 = kAt (i + 1) k xs := by have := HU.out; omega
      have HRK := keep hrk
      have HRR := keep hr
      clear hr hrk hb1 hb2 h48 hK2 hK3
      go_wp2_with fail
      refine (M.out _ (by omega)).mono ?_
      rintro e w2 ⟨rfl, hp, hg⟩
      obtain ⟨⟨x3, b3⟩, ⟨x4, b4⟩, f4⟩ := hmid.out w2 hg
      rw [HRR.out]
      have S := mark_step HO2.out i hi2 K r HRR.out hg hp
      rw [HS.out, HL.out] at S
      have HSS := keep S
      clear a0 a1 a2 ff hp hg S
      go_wp2_with fail
      go_roundw
      case rel => exact ⟨i + 1, r + 2, by omega, by omega, by go_num, by go_num, HRK, keep HSS.out.1, hbr.trans HSS.out.2.1, keep (hks.out.trans HSS.out.2.2)⟩
      case measure => simp [intOf]; omega

theorem held_pack {w : World} {B c k : Nat} {a : Option Addr} {xs : List (CD × Value)} (how : OwnS w B (.slice a xs.length c) (markL xs.length k xs)) (i K : Nat) (hK : K = kAt i k xs) (h : i < xs.length) :
    ∃ (g n : Nat) (u : Value) (r : Nat), a = some ⟨g, 0, none⟩ ∧ n = xs[i].1.ps.length ∧ K + 2 + 4 * n = r ∧ w.cell? ⟨g, i * 5, none⟩ = some (.int .i64 K) ∧ w.cell? ⟨g, i * 5 + 1, none⟩ = some (.int .i64 ((K : Int) + 1)) ∧ w.cell? ⟨g, i * 5 + 2, none⟩ = some u ∧
      w.cell? ⟨g, i * 5 + 3, none⟩ = some (.float .f32 (floatOfInt .f32 r)) ∧ w.cell? ⟨g, i * 5 + 4, none⟩ = some (.float .f32 (floatOfInt .f32 ((r : Int) + 1))) ∧ w.ownsRow B 25 4 u n (psCells (marksFrom (K + 2) n)) ∧ r + 2 = kAt (i + 1) k xs := by
  have hL := markL_length xs.length k xs
  have hi : i < (markL xs.length k xs).length := by omega
  have hat := markL_full xs.length i k xs (Nat.le_refl _) h
  rw [← hK] at hat
  have how' : OwnS w B (.slice a (markL xs.length k xs).length c) (markL xs.length k xs) := by rw [hL]; exact how
  obtain ⟨g, rfl, hBg, hgl⟩ := owns_at how'.row (by omega)
  have ho2 : OwnS w B (.slice (some ⟨g, 0, none⟩) xs.length c) (markL xs.length k xs) := how
  have he := ho2.each i hi
  have cc := fun j u hj hu => ho2.cell i hi j u hj hu
  rw [hat] at he cc
  have hl : (markCD K xs[i].1.ps.length).ps.length = xs[i].1.ps.length := by simp [markCD, marksFrom_length]
  rw [hl] at he
  refine ⟨g, xs[i].1.ps.length, xs[i].2, _, rfl, rfl, rfl, cc 0 _ (by omega) rfl, cc 1 _ (by omega) rfl, cc 2 _ (by omega) rfl, cc 3 _ (by omega) rfl, ?_, he, ?_⟩
  · have h4 := cc 4 _ (by omega) rfl
    rw [show (((K + 2 + 4 * xs[i].1.ps.length : Nat) : Int) + 1) = ((K + 3 + 4 * xs[i].1.ps.length : Nat) : Int) by omega]
    exact h4
  · have := kAt_succ i k xs h; omega

set_option maxHeartbeats 4000000 in
set_option maxRecDepth 20000 in
theorem heldCloudS_any (B : Nat) (v : Value) (xs : List (CD × Value)) (k : Nat) (w : World) (ho : OwnS w B v (markL xs.length k xs)) (hf : ∀ x ∈ xs, x.1.ps.length ≤ 48) (hN : xs.length ≤ 8) (hk : k ≤ 10) :
    Calls Try.prog 52 #[v, .int .i64 k] w fun e w' => e = .returned (.int .i64 (kAt xs.length k xs)) ∧ w' = w := by
  obtain ⟨a, c, rfl⟩ := owns_slice ho.row
  rw [markL_length] at ho ⊢
  have HK := keep (fun i => kAt_le i k xs hf)
  have HO := keep ho
  clear ho hf
  go_enter Try.func52, Try.ntmps52
  go_wp2_with fail
  go_loop [1, 5] (fun t s => ∃ i K : Nat, i ≤ xs.length ∧ K < 1590 ∧ t = .int .i64 K ∧ s = .int .i64 i ∧ Kept (K = kAt i k xs)) (fun _ s => xs.length - (intOf s).toNat)
  case atStart => exact ⟨0, k, Nat.zero_le _, by omega, rfl, rfl, keep rfl⟩
  case round =>
    obtain ⟨i, K, hi, hK, rfl, rfl, hKe⟩ := hrel
    by_cases hlt : i < xs.length
    case neg =>
      obtain rfl : i = xs.length := by omega
      go_wp2_with fail
      go_ret
      exact ⟨ret_int (by rw [hKe.out]), rfl⟩
    case pos =>
      obtain ⟨g, n, u, r, rfl, hn, hr, a0, a1, a2, a3, a4, hp, hrk⟩ := held_pack HO.out i K hKe.out hlt
      have hb2 := HK.out (i + 1)
      have hrI : r + 2 < 1590 := by omega
      have M := keep (fun (z : Int) (hz : z = ((K + 2 : Nat) : Int)) => hz ▸ heldParticleS_any B u n (K + 2) w hp (by omega))
      rw [hr] at M
      have HRK := keep hrk
      have q0 : ((K : Int) != (K : Int)) = false := by simp
      have q1 : ((K : Int) + 1 != (K : Int) + 1) = false := by simp
      have q2 : decide ((r : Int) < 0) = false := by simp
      have o0 : FloatKind.f32.format.order (floatOfInt .f32 (r : Int)) (floatOfInt .f32 (r : Int)) = some .eq := (mark_bits r (by omega)).2
      have o1 : FloatKind.f32.format.order (floatOfInt .f32 ((r : Int) + 1)) (floatOfInt .f32 ((r : Int) + 1)) = some .eq := (mark_bits (r + 1) (by omega)).2
      have hkk : (0 : Int) ≤ (i : Int) := by omega
      have hkl : (i : Int) < (xs.length : Int) := by omega
      clear hn hr hp hrk hb2
      go_wp2_with fail
      refine (M.out _ (by omega)).mono ?_
      rintro e w' ⟨rfl, rfl⟩
      go_wp2_with fail
      go_round
      case rel => exact ⟨i + 1, r + 2, by omega, by omega, by go_num, by go_num, HRK⟩
      case measure => simp [intOf]; omega
end Go.Proofs.Ytafaabhnkjjkcaa
