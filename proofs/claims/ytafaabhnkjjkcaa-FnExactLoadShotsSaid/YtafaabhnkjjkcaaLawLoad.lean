/- The law FnExactLoadCloud by its walk: the program's LoadCloud returns what the reference's returns, in memory of its own. No condition. -/
import Derived.Test.YtafaabhnkjjkcaaLc
namespace Go.Proofs.Ytafaabhnkjjkcaa
open Go.RowKit Go.Sort

theorem fin_of_ok (p : PD) (h : p.ok = true) : p.fin = true := by
  unfold PD.ok validP at h
  unfold PD.fin finP
  simp only [Bool.and_eq_true] at h ⊢
  exact h.1

/-- What is known of the cloud of a text. -/
theorem cloud_facts (s : ByteArray) : (psOf s).all PD.fin = true ∧ (psOf s).length ≤ 48 ∧ fin .f32 (mgOf s) = true ∧ fin .f32 (bkOf s) = true := by
  unfold psOf mgOf bkOf
  cases hf : full s
  · exact ⟨rfl, Nat.zero_le _, by show fin .f32 0 = true; decide +kernel, by show fin .f32 0 = true; decide +kernel⟩
  · unfold full goodAt at hf
    simp only [Bool.and_eq_true] at hf
    obtain ⟨⟨⟨_, hall⟩, hok⟩, _⟩ := hf
    unfold okCloud at hok
    simp only [Bool.and_eq_true, decide_eq_true_eq] at hok
    obtain ⟨⟨_, hn⟩, hm, hb⟩ := hok
    refine ⟨?_, by rw [if_pos rfl, psAt_length]; exact hn, hm, hb⟩
    rw [if_pos rfl, List.all_eq_true]
    intro p hp
    exact fin_of_ok p (List.all_eq_true.1 hall p hp)

set_option maxHeartbeats 8000000 in
set_option maxRecDepth 20000 in
theorem lawLoad_any (s : ByteArray) (w : World) :
    Calls Try.prog 5 #[.string s] w fun e w' => e = .returned (.bool true) ∧ Below w.heap.size w w' := by
  by_cases hbig : 1048576 < s.size
  · have hd : decide ((1048576 : Int) < (s.size : Int)) = true := by simp; omega
    clear hbig
    go_enter Try.func5, Try.ntmps5
    go_wp2_with fail
    go_ret
    exact ⟨rfl, Below.refl _ _⟩
  have hd : decide ((1048576 : Int) < (s.size : Int)) = false := by simp; omega
  obtain ⟨F1, F2, F3, F4⟩ := cloud_facts s
  have R1 := fun w => sLoadCloud_any s w (by omega)
  have R2 := fun w => LoadCloud_any s w (by omega)
  unfold LoadRes at R1 R2
  clear hbig
  generalize wdOf s = wd at *
  generalize hgOf s = hg at *
  generalize mgOf s = mg at *
  generalize bkOf s = bk at *
  generalize psOf s = ps at *
  generalize full s = fl at *
  have hfl : (fl != fl) = false := by cases fl <;> rfl
  have K1 := keep R1
  have K2 := keep R2
  have G1 := keep F1
  have G2 := keep F2
  have G3 := keep F3
  have G4 := keep F4
  have hr0 : ∃ r : Nat, 1 + 4 * ps.length = r := ⟨_, rfl⟩
  obtain ⟨r, hr⟩ := hr0
  have hrd : decide ((r : Int) < 0) = false := by simp
  have hrn : ((r : Int) != (r : Int)) = false := by simp
  have HR := keep hr
  clear R1 R2 F1 F2 F3 F4 hr
  go_enter Try.func5, Try.ntmps5
  go_wp2_with fail
  refine (K1.out w).mono ?_
  rintro e w1 ⟨a0, n0, k0, rfl, o0, hb1⟩
  unfold cloudV
  have B1 := keep hb1
  have O0 := keep (o0.alloc (.cells #[.int .i64 wd, .int .i64 hg, .slice a0 n0 k0, .float .f32 mg, .float .f32 bk] 34))
  have O0L := keep o0.lt
  clear hb1 o0
  go_wp2_with fail
  refine (K2.out _).mono ?_
  rintro e w2 ⟨a1, n1, k1, rfl, o1, hb2⟩
  unfold cloudV
  rw [World.size_alloc] at o1
  have p1 := (Has.made w1 34 #[.int .i64 wd, .int .i64 hg, .slice a0 n0 k0, .float .f32 mg, .float .f32 bk]).after hb2
  have B2 := keep ((B1.out.alloc B1.out.size (.cells #[.int .i64 wd, .int .i64 hg, .slice a0 n0 k0, .float .f32 mg, .float .f32 bk] 34)).trans (hb2.mono (by have := B1.out.size; simp; omega)))
  have O01 := keep ((owns_below O0.out hb2).alloc (.cells #[.int .i64 wd, .int .i64 hg, .slice a1 n1 k1, .float .f32 mg, .float .f32 bk] 34))
  have O11 := keep (o1.alloc (.cells #[.int .i64 wd, .int .i64 hg, .slice a1 n1 k1, .float .f32 mg, .float .f32 bk] 34))
  have hz2 := p1.in_heap
  have c1 := p1.cells
  have P1 := keep p1
  have O1L := keep o1.lt
  clear o1 hb2 p1
  go_wp2_with fail
  refine (eqCloud_any _ _ _ _ ps wd hg mg bk _ O11.out O01.out G1.out (by have := G2.out; omega) G3.out G4.out).mono ?_
  rintro e w3 ⟨rfl, hb3⟩
  have p1 := (P1.out.beside (.cells #[.int .i64 wd, .int .i64 hg, .slice a1 n1 k1, .float .f32 mg, .float .f32 bk] 34)).after hb3
  have p2 := (Has.made w2 34 #[.int .i64 wd, .int .i64 hg, .slice a1 n1 k1, .float .f32 mg, .float .f32 bk]).after hb3
  have O02 := keep (owns_below O01.out hb3)
  have O12 := keep (owns_below O11.out hb3)
  have B3 := keep ((B2.out.alloc B2.out.size (.cells #[.int .i64 wd, .int .i64 hg, .slice a1 n1 k1, .float .f32 mg, .float .f32 bk] 34)).trans (hb3.mono (by have := B2.out.size; simp; omega)))
  have M1 := markCloud_any _ _ ps 1 wd hg mg bk w3 O12.out (by have := G2.out; omega)
  rw [HR.out] at M1
  have M1 := keep M1
  have hrow : ∀ g, (Value.slice a1 n1 k1).ownBlock = some g → w1.heap.size + 1 ≤ g ∧ g < w2.heap.size := by
    intro g hg
    have h := O1L.out g hg
    omega
  have Hrow := keep hrow
  have c1 := p1.cells
  have c2 := p2.cells
  have hz3 := p2.in_heap
  have P1 := keep p1
  have P2 := keep p2
  clear hb3 p1 p2 O01 O11 hrow
  unfold cloudV at M1
  go_wp2_with fail
  refine M1.out.mono ?_
  rintro e w4 ⟨rfl, o12, hg4⟩
  have p1 := P1.out.grown hg4 (fun e => by have := Hrow.out _ e; omega)
  have p2 := P2.out.grown hg4 (fun e => by have := Hrow.out _ e; omega)
  have O03 := keep (owns_other O02.out hg4 (fun g hg e => by have := Hrow.out _ e; have := O0L.out g hg; omega))
  have B4 := keep (B3.out.grown hg4 B3.out.size (fun g e => by have := Hrow.out _ e; have := B1.out.size; omega))
  have D1 := heldCloud_any _ _ _ 1 wd hg mg bk w4 o12 (by have := G2.out; omega)
  rw [HR.out] at D1
  have D1 := keep D1
  have O13 := keep o12
  have c1 := p1.cells
  have c2 := p2.cells
  have hz4 := p2.in_heap
  have P1 := keep p1
  have P2 := keep p2
  clear hg4 p1 p2 O02 O12 o12 hz2 hz3
  unfold cloudV at D1
  go_wp2_with fail
  refine D1.out.mono ?_
  rintro e w5 ⟨rfl, hb5⟩
  have p1 := P1.out.after hb5
  have p2 := P2.out.after hb5
  have O04 := keep (owns_below O03.out hb5)
  have O14 := keep (owns_below O13.out hb5)
  have B5 := keep (B4.out.trans (hb5.mono B4.out.size))
  have P1 := keep p1
  have P2 := keep p2
  clear hb5 p1 p2 O03 O13 c1 c2 D1 M1
  go_wp2_with fail
  refine (K2.out _).mono ?_
  rintro e w6 ⟨a2, n2, k2, rfl, o2, hb6⟩
  unfold cloudV
  have p1 := P1.out.after hb6
  have p2 := P2.out.after hb6
  have B6 := keep (B5.out.trans (hb6.mono B5.out.size))
  have O05 := keep ((owns_below O04.out hb6).alloc (.cells #[.int .i64 wd, .int .i64 hg, .slice a2 n2 k2, .float .f32 mg, .float .f32 bk] 34))
  have O15 := keep ((owns_below O14.out hb6).alloc (.cells #[.int .i64 wd, .int .i64 hg, .slice a2 n2 k2, .float .f32 mg, .float .f32 bk] 34))
  have O25 := keep (o2.alloc (.cells #[.int .i64 wd, .int .i64 hg, .slice a2 n2 k2, .float .f32 mg, .float .f32 bk] 34))
  have c1 := p1.cells
  have z1 := p1.in_heap
  have P1 := keep p1
  have P2 := keep p2
  clear hb6 p1 p2 O04 O14 o2
  go_wp2_with fail
  refine (eqCloud_any _ _ _ _ ps wd hg mg bk _ O25.out O05.out G1.out (by have := G2.out; omega) G3.out G4.out).mono ?_
  rintro e w7 ⟨rfl, hb7⟩
  have p2 := (P2.out.beside (.cells #[.int .i64 wd, .int .i64 hg, .slice a2 n2 k2, .float .f32 mg, .float .f32 bk] 34)).after hb7
  have B7 := keep ((B6.out.alloc B6.out.size (.cells #[.int .i64 wd, .int .i64 hg, .slice a2 n2 k2, .float .f32 mg, .float .f32 bk] 34)).trans (hb7.mono (by have := B6.out.size; simp; omega)))
  have D2 := heldCloud_any _ _ _ 1 wd hg mg bk w7 (owns_below O15.out hb7) (by have := G2.out; omega)
  rw [HR.out] at D2
  have D2 := keep D2
  unfold cloudV at D2
  have c2 := p2.cells
  clear c1 z1 p2 hb7
  go_wp2_with fail
  refine D2.out.mono ?_
  rintro e w8 ⟨rfl, hb8⟩
  have B8 := B7.out.trans (hb8.mono B7.out.size)
  go_wp2_with fail
  go_ret
  exact ⟨rfl, B8⟩
end Go.Proofs.Ytafaabhnkjjkcaa
