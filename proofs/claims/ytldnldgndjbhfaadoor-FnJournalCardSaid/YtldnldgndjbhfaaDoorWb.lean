/- Contracts: the reference's texts of numbers, of pairs and of lists of two. No condition. Contracts: the reference's texts of pairs and of lists of two. Of the parts: what the element's contract says. Printed by mkWa.py. -/
import Derived.Test.YtldnldgndjbhfaaDoorZb
import Derived.Test.YtldnldgndjbhfaaDoorUd
namespace Go.Proofs.YtldnldgndjbhfaaDoor
open Go.RowKit Go.Sort Ieee
set_option linter.unusedSimpArgs false

def digits16 : ByteArray := ⟨#[48, 49, 50, 51, 52, 53, 54, 55, 56, 57, 97, 98, 99, 100, 101, 102]⟩
theorem digits16_at : ∀ d : Fin 16, digits16.data[d.val]? = some (hx d.val) := by decide +kernel
theorem digit16_get (d : Nat) (h : d < 16) (h2 : d < digits16.size) : digits16[d]'h2 = hx d := by
  have e := digits16_at ⟨d, h⟩
  have e2 : digits16.data[d]? = some (digits16[d]'h2) := Array.getElem?_eq_getElem (by exact h2)
  rw [e2] at e
  exact Option.some.inj e
theorem and15_i64 (u : Nat) (h : u < 4294967296) : bits .and .i64 (u : Int) 15 = ((u % 16 : Nat) : Int) := by
  have h1 := (bits_nat .i64 63 (by decide) (fun n h0 h1 => IntWalk.i64_in n ⟨by omega, by omega⟩) u 15 (by omega) (by decide)).1
  rw [show ((15 : Nat) : Int) = 15 from rfl] at h1
  rw [h1, show (15 : Nat) = 2 ^ 4 - 1 from rfl, Nat.and_two_pow_sub_one_eq_mod]

set_option maxHeartbeats 4000000 in
set_option maxRecDepth 20000 in
theorem l01Hex_any (b : Nat) (w : World) (hb : b < 4294967296) : Calls Tryd.prog 20 #[.float .f32 b] w fun e w' => e = .returned (.string (tx (hex8 (cb b)))) ∧ Below w.heap.size w w' := by
  have LB := keep (fun w => l01Bits_cb b w hb)
  have hc : cb b < 4294967296 := by unfold cb; split <;> omega
  rw [hex8_pd _ hc]
  clear hb
  generalize cb b = n at *
  obtain ⟨i0, hi, hz0, hz1, hz2⟩ := info_parts infoByte
  have HI := keep hi
  have HZ0 := keep hz0
  have HZ1 := keep hz1
  have HZ2 := keep hz2
  clear hi hz0 hz1 hz2
  go_enter Tryd.func20, Tryd.ntmps20
  go_wp2_with fail
  refine (LB.out _).mono ?_
  rintro e w' ⟨rfl, hw⟩
  have hw := hw.symm
  subst hw
  go_wp2_with fail
  go_loopw [4, 5] (fun v k wr => ∃ (j g c : Nat), k = .int .i64 (28 - 4 * (j : Int)) ∧ j ≤ 8 ∧ v = .slice (some ⟨g, 0, none⟩) j c ∧ g < wr.heap.size ∧ Kept (wr.ownsRow w.heap.size 5 1 (.slice (some ⟨g, 0, none⟩) j c) j (bv (pd j (n / 16 ^ (8 - j))))) ∧ Below w.heap.size w wr) (fun _ k _ => (intOf k + 4).toNat)
  case atStart =>
    refine ⟨0, w.heap.size, 0, rfl, by omega, rfl, by simp, keep ?_, by go_grown⟩
    exact World.ownsRow_made w #[] 0 (Nat.le_refl _) (by unfold maxLen; omega) rfl
  case round =>
    obtain ⟨j, g, c, rfl, hj, rfl, hg, ho, hb⟩ := hrel
    by_cases hlt : j < 8
    · obtain ⟨K, hK⟩ : ∃ K : Nat, (28 - 4 * (j : Int)) = (K : Int) := ⟨28 - 4 * j, by omega⟩
      have hw1 : IntKind.u64.wrap (K : Int) = (K : Int) := IntWalk.u64_in _ ⟨by omega, by omega⟩
      have hq : n / 2 ^ K < 4294967296 := Nat.lt_of_le_of_lt (Nat.div_le_self _ _) hc
      have hcast : (n : Int) / 2 ^ K = ((n / 2 ^ K : Nat) : Int) := by
        rw [Int.natCast_ediv, Int.natCast_pow]; rfl
      have hand : bits .and .i64 ((n : Int) / 2 ^ K) 15 = ((n / 2 ^ K % 16 : Nat) : Int) := by
        rw [hcast]; exact and15_i64 (n / 2 ^ K) hq
      have hpd : pd (j + 1) (n / 16 ^ (8 - (j + 1))) = pd j (n / 16 ^ (8 - j)) ++ [hx (n / 2 ^ K % 16)] := by
        show pd j (n / 16 ^ (8 - (j + 1)) / 16) ++ [hx (n / 16 ^ (8 - (j + 1)) % 16)] = _
        rw [Nat.div_div_eq_div_mul, ← Nat.pow_succ, show (8 - (j + 1)).succ = 8 - j by omega]
        rw [show (16 : Nat) ^ (8 - (j + 1)) = 2 ^ K by
          rw [show (16 : Nat) = 2 ^ 4 from rfl, ← Nat.pow_mul]; congr 1; omega]
      have hK2 : (K : Int) - 4 = 28 - 4 * ((j + 1 : Nat) : Int) := by omega
      have HK2 := keep hK2
      have HPD := keep hpd
      have h16 : n / 2 ^ K % 16 < 16 := Nat.mod_lt _ (by decide)
      generalize n / 2 ^ K % 16 = d at *
      have hds : d < digits16.size := Nat.lt_of_lt_of_le h16 (by decide)
      have hd0 : (0 : Int) ≤ (d : Int) := by omega
      have hd16 : (d : Int) < 16 := by omega
      have hs0 := hb.size
      rw [hK]
      clear hpd hK2 hq hcast
      have hgd := digit16_get d h16 hds
      unfold digits16 at hds hgd
      go_wp2_with (at_builtin; go_loud (refine wpList_append_own_at _ rfl _ _ 22 rfl w.heap.size 5 i0 _ 1 1 Tryd.underlying22 HI.out HZ0.out HZ1.out HZ2.out rfl (by decide) (.slice (some ⟨g, 0, none⟩) j c) j _ rfl (ho.out.alloc _) ⟨wr.heap.size, 0, none⟩ 1 1 [.int .u8 ((hx d).toNat : Int)] rfl rfl ?c1 ?c2 ?c3 ?c4 ?c5 ?_))
      case c1 => exact new_cell
      case c2 => intro u hu; simp only [List.mem_cons, List.not_mem_nil, or_false] at hu; subst hu; rfl
      case c3 => unfold maxLen; omega
      case c4 => omega
      case c5 => simp only [World.size_alloc]; omega
      intro v' w4 hown' hgrow _ _
      obtain ⟨g', cap', rfl, hB', hlt'⟩ := hown'.form (by omega)
      have hb4 := (hb.alloc hs0 (.cells #[.int .u8 ((hx d).toNat : Int)] 5)).grown hgrow (by simp only [World.size_alloc]; omega) (fun k e => by have := ((ho.out.alloc (.cells #[.int .u8 ((hx d).toNat : Int)] 5)).lt k e).1; omega)
      have HO := keep hown'
      clear hown' hgrow
      go_wp2_with fail
      go_roundw
      case rel => exact ⟨j + 1, g', cap', by go_num, by omega, rfl, hlt', keep (by
          have e := HO.out
          rw [HPD.out]
          unfold bv at *
          rw [List.map_append]
          exact e), hb4⟩
      case measure => simp [intOf]; omega
    · obtain rfl : j = 8 := by omega
      have hg2 : ¬ (0 : Int) ≤ 28 - 4 * ((8 : Nat) : Int) := by omega
      have ho2 := ho.out
      rw [show n / 16 ^ (8 - 8) = n by simp] at ho2
      have hl : (pd 8 n).length = 8 := by
        rw [← hex8_pd n hc]
        have e := hv8_hex8 n hc
        unfold hv8 at e
        split at e
        · assumption
        · cases e
      have hcv := run_convert_bytes_back (P := Tryd.prog) wr 22 9 5 ⟨g, 0, none⟩ c (pd 8 n) Tryd.underlying22 Tryd.underlying5 Tryd.underlying9 (by
        have h3 : wr.ownsRow w.heap.size 5 1 (.slice (some ⟨g, 0, none⟩) (pd 8 n).length c) (pd 8 n).length (bv (pd 8 n)) := by rw [hl]; exact ho2
        exact owns_cells h3)
      rw [hl] at hcv
      clear ho ho2
      go_wp2_with fail
      go_ret
      exact ⟨rfl, hb⟩
end Go.Proofs.YtldnldgndjbhfaaDoor
namespace Go.Proofs.YtldnldgndjbhfaaDoor
open Go.RowKit Go.Sort Ieee
set_option linter.unusedSimpArgs false

def hexW (b : Nat) : ByteArray := tx (hex8 (cb b))
theorem hexW_size (b : Nat) (h : b < 4294967296) : (hexW b).size = 8 := by
  unfold hexW
  rw [tx_size]
  have hc : cb b < 4294967296 := by unfold cb; split <;> omega
  have e := hv8_hex8 (cb b) hc
  unfold hv8 at e
  split at e
  · assumption
  · cases e
theorem Hex_ok (b : Nat) (hb : b < 4294967296) (w : World) : Calls Tryd.prog 20 #[.float .f32 b] w fun e w' => e = .returned (.string (hexW b)) ∧ Below w.heap.size w w' := l01Hex_any b w hb
def hexC (p : Nat × Nat) : ByteArray := hexW p.1 ++ hexW p.2
theorem app_size (a b : ByteArray) : (a ++ b).size = a.size + b.size := by
  first
    | exact ByteArray.size_append ..
    | simp
set_option maxHeartbeats 1000000 in
theorem CHex_ok (p : Nat × Nat) (h1 : p.1 < 4294967296) (h2 : p.2 < 4294967296) (w : World) : Calls Tryd.prog 56 #[.complex .f32 p.1 p.2] w fun e w' => e = .returned (.string (hexC p)) ∧ Below w.heap.size w w' := by
  have A := keep (Hex_ok p.1 h1)
  have B := keep (Hex_ok p.2 h2)
  have s1 := hexW_size p.1 h1
  have s2 := hexW_size p.2 h2
  unfold hexC
  generalize hexW p.1 = x at *
  generalize hexW p.2 = y at *
  generalize p.1 = a at *
  generalize p.2 = b at *
  clear h1 h2
  go_enter Tryd.func56, Tryd.ntmps56
  go_wp2_with fail
  refine (A.out _).mono ?_
  rintro e w1 ⟨rfl, hb⟩
  have HB := keep hb
  clear hb
  go_wp2_with fail
  refine (B.out _).mono ?_
  rintro e w2 ⟨rfl, hb⟩
  have HB2 := keep (HB.out.trans (hb.mono HB.out.size))
  clear hb
  go_wp2_with fail
  go_ret
  exact ⟨rfl, HB2.out⟩

set_option maxHeartbeats 2000000 in
set_option maxRecDepth 20000 in
theorem l01NText_two (g c : Nat) (v1 v2 : Value) (s1 s2 : ByteArray) (w : World) (c1 : w.cell? ⟨g, 0, none⟩ = some v1) (c2 : w.cell? ⟨g, 1, none⟩ = some v2) (z1 : s1.size ≤ 100) (z2 : s2.size ≤ 100)
    (h1 : ∀ w, Calls Tryd.prog 20 #[v1] w fun e w' => e = .returned (.string s1) ∧ Below w.heap.size w w')
    (h2 : ∀ w, Calls Tryd.prog 20 #[v2] w fun e w' => e = .returned (.string s2) ∧ Below w.heap.size w w') :
    Calls Tryd.prog 38 #[.slice (some ⟨g, 0, none⟩) 2 c] w fun e w' => e = .returned (.string (s1 ++ ((⟨#[44]⟩ : ByteArray) ++ s2))) ∧ Below w.heap.size w w' := by
  have H1 := keep h1
  have H2 := keep h2
  have hg : g < w.heap.size := World.block_lt_of_cell? w _ c1
  clear h1 h2
  go_enter Tryd.func38, Tryd.ntmps38
  go_wp2_with fail
  refine (H1.out _).mono ?_
  rintro e w1 ⟨rfl, hb⟩
  have HB := keep hb
  have d2 := (hb.cell (p := ⟨g, 1, none⟩) hg).trans c2
  clear hb c1 c2
  go_wp2_with fail
  go_loopw [3, 4] (fun o t wr => ∃ (i : Nat) (s : ByteArray), t = .int .i64 i ∧ o = .string s ∧ ((i = 1 ∧ s = s1 ∧ wr = w1) ∨ (i = 2 ∧ s = s1 ++ ((⟨#[44]⟩ : ByteArray) ++ s2))) ∧ Kept (Below w.heap.size w wr)) (fun _ t _ => 2 - (intOf t).toNat)
  case atStart => exact ⟨1, s1, rfl, rfl, .inl ⟨rfl, rfl, rfl⟩, HB⟩
  case round =>
    obtain ⟨i, s, rfl, rfl, hor, hbr⟩ := hrel
    rcases hor with ⟨rfl, rfl, hwr⟩ | ⟨rfl, rfl⟩
    · have hwr := hwr.symm
      subst hwr
      have hl : ((⟨#[44]⟩ : ByteArray)).size = 1 := rfl
      go_wp2_with fail
      refine (H2.out _).mono ?_
      rintro e w3 ⟨rfl, hb⟩
      have HB3 := keep (HB.out.trans (hb.mono HB.out.size))
      have hl2 := app_size (⟨#[44]⟩ : ByteArray) s2
      clear hb d2
      go_wp2_with fail
      go_roundw
      case rel => exact ⟨2, _, rfl, rfl, .inr ⟨rfl, rfl⟩, HB3⟩
      case measure => simp [intOf]
    · go_wp2_with fail
      go_ret
      exact ⟨rfl, hbr.out⟩

set_option maxHeartbeats 2000000 in
set_option maxRecDepth 20000 in
theorem l01CText_two (g c : Nat) (v1 v2 : Value) (s1 s2 : ByteArray) (w : World) (c1 : w.cell? ⟨g, 0, none⟩ = some v1) (c2 : w.cell? ⟨g, 1, none⟩ = some v2) (z1 : s1.size ≤ 100) (z2 : s2.size ≤ 100)
    (h1 : ∀ w, Calls Tryd.prog 56 #[v1] w fun e w' => e = .returned (.string s1) ∧ Below w.heap.size w w')
    (h2 : ∀ w, Calls Tryd.prog 56 #[v2] w fun e w' => e = .returned (.string s2) ∧ Below w.heap.size w w') :
    Calls Tryd.prog 39 #[.slice (some ⟨g, 0, none⟩) 2 c] w fun e w' => e = .returned (.string (s1 ++ ((⟨#[44]⟩ : ByteArray) ++ s2))) ∧ Below w.heap.size w w' := by
  have H1 := keep h1
  have H2 := keep h2
  have hg : g < w.heap.size := World.block_lt_of_cell? w _ c1
  clear h1 h2
  go_enter Tryd.func39, Tryd.ntmps39
  go_wp2_with fail
  refine (H1.out _).mono ?_
  rintro e w1 ⟨rfl, hb⟩
  have HB := keep hb
  have d2 := (hb.cell (p := ⟨g, 1, none⟩) hg).trans c2
  clear hb c1 c2
  go_wp2_with fail
  go_loopw [3, 4] (fun o t wr => ∃ (i : Nat) (s : ByteArray), t = .int .i64 i ∧ o = .string s ∧ ((i = 1 ∧ s = s1 ∧ wr = w1) ∨ (i = 2 ∧ s = s1 ++ ((⟨#[44]⟩ : ByteArray) ++ s2))) ∧ Kept (Below w.heap.size w wr)) (fun _ t _ => 2 - (intOf t).toNat)
  case atStart => exact ⟨1, s1, rfl, rfl, .inl ⟨rfl, rfl, rfl⟩, HB⟩
  case round =>
    obtain ⟨i, s, rfl, rfl, hor, hbr⟩ := hrel
    rcases hor with ⟨rfl, rfl, hwr⟩ | ⟨rfl, rfl⟩
    · have hwr := hwr.symm
      subst hwr
      have hl : ((⟨#[44]⟩ : ByteArray)).size = 1 := rfl
      go_wp2_with fail
      refine (H2.out _).mono ?_
      rintro e w3 ⟨rfl, hb⟩
      have HB3 := keep (HB.out.trans (hb.mono HB.out.size))
      have hl2 := app_size (⟨#[44]⟩ : ByteArray) s2
      clear hb d2
      go_wp2_with fail
      go_roundw
      case rel => exact ⟨2, _, rfl, rfl, .inr ⟨rfl, rfl⟩, HB3⟩
      case measure => simp [intOf]
    · go_wp2_with fail
      go_ret
      exact ⟨rfl, hbr.out⟩

set_option maxHeartbeats 2000000 in
set_option maxRecDepth 20000 in
theorem l01Text_two (g c : Nat) (v1 v2 : Value) (s1 s2 : ByteArray) (w : World) (c1 : w.cell? ⟨g, 0, none⟩ = some v1) (c2 : w.cell? ⟨g, 1, none⟩ = some v2) (z1 : s1.size ≤ 100) (z2 : s2.size ≤ 100)
    (h1 : ∀ w, Calls Tryd.prog 19 #[v1] w fun e w' => e = .returned (.string s1) ∧ Below w.heap.size w w')
    (h2 : ∀ w, Calls Tryd.prog 19 #[v2] w fun e w' => e = .returned (.string s2) ∧ Below w.heap.size w w') :
    Calls Tryd.prog 37 #[.slice (some ⟨g, 0, none⟩) 2 c] w fun e w' => e = .returned (.string (s1 ++ ((⟨#[44]⟩ : ByteArray) ++ s2))) ∧ Below w.heap.size w w' := by
  have H1 := keep h1
  have H2 := keep h2
  have hg : g < w.heap.size := World.block_lt_of_cell? w _ c1
  clear h1 h2
  go_enter Tryd.func37, Tryd.ntmps37
  go_wp2_with fail
  refine (H1.out _).mono ?_
  rintro e w1 ⟨rfl, hb⟩
  have HB := keep hb
  have d2 := (hb.cell (p := ⟨g, 1, none⟩) hg).trans c2
  clear hb c1 c2
  go_wp2_with fail
  go_loopw [3, 4] (fun o t wr => ∃ (i : Nat) (s : ByteArray), t = .int .i64 i ∧ o = .string s ∧ ((i = 1 ∧ s = s1 ∧ wr = w1) ∨ (i = 2 ∧ s = s1 ++ ((⟨#[44]⟩ : ByteArray) ++ s2))) ∧ Kept (Below w.heap.size w wr)) (fun _ t _ => 2 - (intOf t).toNat)
  case atStart => exact ⟨1, s1, rfl, rfl, .inl ⟨rfl, rfl, rfl⟩, HB⟩
  case round =>
    obtain ⟨i, s, rfl, rfl, hor, hbr⟩ := hrel
    rcases hor with ⟨rfl, rfl, hwr⟩ | ⟨rfl, rfl⟩
    · have hwr := hwr.symm
      subst hwr
      have hl : ((⟨#[44]⟩ : ByteArray)).size = 1 := rfl
      go_wp2_with fail
      refine (H2.out _).mono ?_
      rintro e w3 ⟨rfl, hb⟩
      have HB3 := keep (HB.out.trans (hb.mono HB.out.size))
      have hl2 := app_size (⟨#[44]⟩ : ByteArray) s2
      clear hb d2
      go_wp2_with fail
      go_roundw
      case rel => exact ⟨2, _, rfl, rfl, .inr ⟨rfl, rfl⟩, HB3⟩
      case measure => simp [intOf]
    · go_wp2_with fail
      go_ret
      exact ⟨rfl, hbr.out⟩
end Go.Proofs.YtldnldgndjbhfaaDoor
