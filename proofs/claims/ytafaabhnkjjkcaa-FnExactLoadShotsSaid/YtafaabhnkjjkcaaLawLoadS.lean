/- The law FnExactLoadShots by its walk: the program's function returns what the reference's returns, in memory of its own. No condition. -/
import Derived.Test.YtafaabhnkjjkcaaSm
namespace Go.Proofs.Ytafaabhnkjjkcaa
open Go.RowKit Go.Sort

set_option maxHeartbeats 8000000 in
set_option maxRecDepth 20000 in
theorem lawFnExactLoadShots_any (s : ByteArray) (w : World) :
    Calls Try.prog 7 #[.string s] w fun e w' => e = .returned (.bool true) ∧ Below w.heap.size w w' := by
  by_cases hbig : 1048576 < s.size
  · have hd : decide ((1048576 : Int) < (s.size : Int)) = true := by simp; omega
    clear hbig
    go_enter Try.func7, Try.ntmps7
    go_wp2_with fail
    go_ret
    exact ⟨rfl, Below.refl _ _⟩
  have hd : decide ((1048576 : Int) < (s.size : Int)) = false := by simp; omega
  have F := recS_facts s 8 0
  have R1 := fun w => sLoadShots_any s w (by omega)
  have R2 := fun w => LoadShots_any s w (by omega)
  clear hbig
  have F : (if (recS s 8 0).2 = s.size then (recS s 8 0).1 else []).length ≤ 8 ∧ ∀ c ∈ (if (recS s 8 0).2 = s.size then (recS s 8 0).1 else []), c.fin = true ∧ c.ps.length ≤ 48 := by
    by_cases h : (recS s 8 0).2 = s.size
    · rw [if_pos h]; exact F
    · rw [if_neg h]; exact ⟨Nat.zero_le _, fun c hc => by cases hc⟩
  generalize (if (recS s 8 0).2 = s.size then (recS s 8 0).1 else []) = cds at *
  generalize decide ((recS s 8 0).2 = s.size) = fl at *
  have hfl : (fl != fl) = false := by cases fl <;> rfl
  have K1 := keep R1
  have K2 := keep R2
  have G := keep F
  clear R1 R2 F
  go_enter Try.func7, Try.ntmps7
  go_wp2_with fail
  refine (K1.out w).mono ?_
  rintro e w1 ⟨a0, n0, k0, xs0, rfl, o0, h0, hb1⟩
  have B1 := keep hb1
  have O0 := keep (o0.alloc (.cells #[.slice a0 n0 k0] 43))
  have O0V := keep (fun g e => (o0.row.lt g e).2)
  have O0U := keep o0.blocks
  have H0 := keep h0
  clear hb1 o0 h0
  go_wp2_with fail
  refine (K2.out _).mono ?_
  rintro e w2 ⟨a1, n1, k1, xs1, rfl, o1, h1, hb2⟩
  rw [World.size_alloc] at o1
  have p1 := (Has.made w1 43 #[.slice a0 n0 k0]).after hb2
  have B2 := keep ((B1.out.alloc B1.out.size (.cells #[.slice a0 n0 k0] 43)).trans (hb2.mono (by have := B1.out.size; simp; omega)))
  have O01 := keep ((O0.out.below hb2).alloc (.cells #[.slice a1 n1 k1] 43))
  have O11 := keep (o1.alloc (.cells #[.slice a1 n1 k1] 43))
  have hz2 := p1.in_heap
  have c1 := p1.cells
  have P1 := keep p1
  have H1 := keep h1
  have HX := keep (show ∀ x ∈ xs1, x.1.fin = true ∧ x.1.ps.length ≤ 48 from fun x hx => G.out.2 x.1 (by rw [← h1]; exact List.mem_map.2 ⟨x, hx, rfl⟩))
  have HL := keep (show xs1.length ≤ 8 by have := G.out.1; rw [← h1, List.length_map] at this; exact this)
  have HP := keep (fun x hx => (HX.out x hx).2)
  have hz12 := hb2.size
  rw [World.size_alloc] at hz12
  clear o1 hb2 p1 h1
  go_wp2_with fail
  refine (eqShots_any _ _ _ _ xs1 xs0 _ O11.out O01.out (H1.out.trans H0.out.symm) HX.out HL.out).mono ?_
  rintro e w3 ⟨rfl, hb3⟩
  have p1 := (P1.out.beside (.cells #[.slice a1 n1 k1] 43)).after hb3
  have p2 := (Has.made w2 43 #[.slice a1 n1 k1]).after hb3
  have O02 := keep (O01.out.below hb3)
  have O12 := keep (O11.out.below hb3)
  have B3 := keep ((B2.out.alloc B2.out.size (.cells #[.slice a1 n1 k1] 43)).trans (hb3.mono (by have := B2.out.size; simp; omega)))
  have hz3 := p2.in_heap
  have M1 := keep (markShots_any _ _ xs1 1 w3 O12.out (by omega) HP.out HL.out (by omega))
  have hr0 : ∃ r : Nat, kAt xs1.length 1 xs1 = r := ⟨_, rfl⟩
  obtain ⟨r, hr⟩ := hr0
  have hrd : decide ((r : Int) < 0) = false := by simp
  have hrn : ((r : Int) != (r : Int)) = false := by simp
  have HR := keep hr
  rw [hr] at M1
  have c1 := p1.cells
  have c2 := p2.cells
  have P1 := keep p1
  have P2 := keep p2
  clear hb3 p1 p2 O01 O11 hr
  go_wp2_with fail
  refine M1.out.mono ?_
  rintro e w4 ⟨rfl, o12, hb4, hks⟩
  have p1 := hks _ _ P1.out
  have p2 := hks _ _ P2.out
  have O03 := keep (O02.out.old (B := w1.heap.size + 1) (fun g e => Nat.lt_succ_of_lt (O0V.out g e)) (fun i hi g e => Nat.lt_succ_of_lt (O0U.out i hi g e)) hb4)
  have B4 := keep (B3.out.trans (hb4.mono (by have := B1.out.size; omega)))
  have hz4 := p2.in_heap
  have O13 := keep o12
  have D1 := keep (heldShots_any _ _ xs1 1 w4 o12 HP.out HL.out (by omega))
  rw [HR.out] at D1
  have c1 := p1.cells
  have c2 := p2.cells
  have P1 := keep p1
  have P2 := keep p2
  clear p1 p2 O02 O12 o12 hz2 hz3 hb4 hks M1
  go_wp2_with fail
  refine D1.out.mono ?_
  rintro e w5 ⟨rfl, hb5⟩
  have p1 := P1.out.after hb5
  have p2 := P2.out.after hb5
  have O04 := keep (O03.out.below hb5)
  have O14 := keep (O13.out.below hb5)
  have B5 := keep (B4.out.trans (hb5.mono B4.out.size))
  have P1 := keep p1
  have P2 := keep p2
  clear hb5 p1 p2 O03 O13 c1 c2 D1
  go_wp2_with fail
  refine (K2.out _).mono ?_
  rintro e w6 ⟨a2, n2, k2, xs2, rfl, o2, h2, hb6⟩
  have p1 := P1.out.after hb6
  have p2 := P2.out.after hb6
  have B6 := keep (B5.out.trans (hb6.mono B5.out.size))
  have O05 := keep ((O04.out.below hb6).alloc (.cells #[.slice a2 n2 k2] 43))
  have O15 := keep ((O14.out.below hb6).alloc (.cells #[.slice a2 n2 k2] 43))
  have O25 := keep (o2.alloc (.cells #[.slice a2 n2 k2] 43))
  have H2 := keep h2
  have HX2 := keep (show ∀ x ∈ xs2, x.1.fin = true ∧ x.1.ps.length ≤ 48 from fun x hx => G.out.2 x.1 (by rw [← h2]; exact List.mem_map.2 ⟨x, hx, rfl⟩))
  have HL2 := keep (show xs2.length ≤ 8 by have := G.out.1; rw [← h2, List.length_map] at this; exact this)
  have c1 := p1.cells
  have z1 := p1.in_heap
  have P1 := keep p1
  have P2 := keep p2
  clear hb6 p1 p2 O04 O14 o2 h2
  go_wp2_with fail
  refine (eqShots_any _ _ _ _ xs2 xs0 _ O25.out O05.out (H2.out.trans H0.out.symm) HX2.out HL2.out).mono ?_
  rintro e w7 ⟨rfl, hb7⟩
  have p2 := (P2.out.beside (.cells #[.slice a2 n2 k2] 43)).after hb7
  have B7 := keep ((B6.out.alloc B6.out.size (.cells #[.slice a2 n2 k2] 43)).trans (hb7.mono (by have := B6.out.size; simp; omega)))
  have D2 := keep (heldShots_any _ _ xs1 1 w7 (O15.out.below hb7) HP.out HL.out (by omega))
  rw [HR.out] at D2
  have c2 := p2.cells
  clear c1 z1 p2 hb7
  go_wp2_with fail
  refine D2.out.mono ?_
  rintro e w8 ⟨rfl, hb8⟩
  have B8 := B7.out.trans (hb8.mono B7.out.size)
  go_wp2_with fail
  go_ret
  exact ⟨rfl, B8⟩
end Go.Proofs.Ytafaabhnkjjkcaa
