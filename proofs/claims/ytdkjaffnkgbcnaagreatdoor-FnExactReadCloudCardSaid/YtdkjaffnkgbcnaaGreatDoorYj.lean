/- The law FnExactReadCloud by its walk: the program's ReadCloud returns what the reference's returns, in memory of its own. Conditions: what the library's variables hold. -/
import Derived.Test.YtdkjaffnkgbcnaaGreatDoorYh
import Derived.Test.YtdkjaffnkgbcnaaGreatDoorYi
namespace Go.Proofs.YtdkjaffnkgbcnaaGreatDoor
open Go.RowKit Go.Sort

theorem owns_other {w w' : World} {B e n size : Nat} {v : Value} {xs : List Value} {row : Option Nat} (h : w.ownsRow B e size v n xs) (hg : w.grownBy w' row) (hne : ∀ g, v.ownBlock = some g → row ≠ some g) : w'.ownsRow B e size v n xs := by
  refine h.kept hg ?_
  cases hv : v.ownBlock with
  | none => exact .inl rfl
  | some g => exact .inr fun e => hne g hv e.symm

theorem fin_of_ok (p : PD) (h : p.ok = true) : p.fin = true := by
  unfold PD.ok validP at h
  unfold PD.fin finP
  simp only [Bool.and_eq_true] at h ⊢
  exact h.1

set_option maxHeartbeats 4000000 in
set_option maxRecDepth 20000 in
theorem sReadCloud_any (l : List UInt8) (w : World) (hmax : l.length ≤ 1100000) :
    Calls Tryz.prog 4 #[.string (tx l)] w (RC l w) := by
  have LR := fun w => l11Read_any l w hmax
  unfold RC at LR ⊢
  generalize cX (readC l) = wd at *
  generalize cY (readC l) = hg at *
  generalize cM (readC l) = mg at *
  generalize cK (readC l) = bk at *
  generalize cP (readC l) = ps at *
  generalize (readC l).isSome = fl at *
  unfold cloudV at LR ⊢
  have LR := keep LR
  have BL : w.heap.size < w.heap.size + 1 := by omega
  go_enter Tryz.func4, Tryz.ntmps4
  go_wp2_with fail
  refine (LR.out _).mono ?_
  rintro e w2 ⟨a, n, c, rfl, ho, hb2⟩
  have q2 := (Has.made w 27 #[.int .i64 0, .int .i64 0, .slice none 0 0, .float .f32 0, .float .f32 0]).after hb2
  have B2 := keep ((show Below w.heap.size w (w.alloc (.cells #[.int .i64 0, .int .i64 0, .slice none 0 0, .float .f32 0, .float .f32 0] 27)) by go_grown).trans (hb2.mono (by simp)))
  rw [World.size_alloc] at ho
  have HO := keep ho
  have qc := q2.cells
  have qf := q2.free
  have qz := q2.in_heap
  clear hb2 q2 ho
  go_wp2_with fail
  refine bodyPost_ret (by simp [results, Tryz.results4, go_sem, qc]) rfl ⟨a, n, c, rfl, own_base ?_ (Nat.le_of_lt BL), ?_⟩
  · exact ownsRow_setCell_below (a := ⟨w.heap.size, 4, none⟩) (ownsRow_setCell_below (a := ⟨w.heap.size, 3, none⟩) (ownsRow_setCell_below (a := ⟨w.heap.size, 2, none⟩) (ownsRow_setCell_below (a := ⟨w.heap.size, 1, none⟩) (ownsRow_setCell_below (a := ⟨w.heap.size, 0, none⟩) HO.out BL _) BL _) BL _) BL _) BL _
  · have hz := B2.out.size
    have hb := B2.out
    go_grown

/-- What is known of the cloud of a text. -/
theorem readC_facts (l : List UInt8) : (cP (readC l)).all PD.fin = true ∧ (cP (readC l)).length ≤ 48 ∧ fin .f32 (cM (readC l)) = true ∧ fin .f32 (cK (readC l)) = true := by
  cases hf : readC l with
  | none => exact ⟨rfl, Nat.zero_le _, by show fin .f32 0 = true; decide +kernel, by show fin .f32 0 = true; decide +kernel⟩
  | some v =>
    obtain ⟨hok, hall⟩ := readC_cut hf
    unfold okCloud at hok
    simp only [Bool.and_eq_true, decide_eq_true_eq] at hok
    obtain ⟨⟨_, hn⟩, hm, hb⟩ := hok
    refine ⟨?_, hn, hm, hb⟩
    rw [List.all_eq_true]
    intro p hp
    exact fin_of_ok p (List.all_eq_true.1 hall p hp)

set_option maxHeartbeats 8000000 in
set_option maxRecDepth 20000 in
theorem lawReadC_mid (l : List UInt8) (w : World) (hl : l.length ≤ 1048576) (hmx : MX w) (her : ER w) (htz : TZ w) (hpw : P10 w) (h0 : 0 < w.heap.size) :
    Calls Tryz.prog 3 #[.string (tx l)] w fun e w' => e = .returned (.bool true) ∧ Below w.heap.size w w' := by
  have TS := tx_size l
  have hd : decide ((1048576 : Int) < ((tx l).size : Int)) = false := by simp; omega
  obtain ⟨F1, F2, F3, F4⟩ := readC_facts l
  have R1 := fun w => sReadCloud_any l w (by omega)
  have R2 := fun w h1 h2 h3 h4 h5 => ReadCloud_any l w (by omega) h1 h2 h3 h4 h5
  have HMX := keep hmx
  have HER := keep her
  have HTZ := keep htz
  have HPW := keep hpw
  unfold RC at R1 R2
  clear hl TS hmx her htz hpw
  generalize cX (readC l) = wd at *
  generalize cY (readC l) = hg at *
  generalize cM (readC l) = mg at *
  generalize cK (readC l) = bk at *
  generalize cP (readC l) = ps at *
  generalize (readC l).isSome = fl at *
  have hfl : (fl != fl) = false := by cases fl <;> rfl
  have K1 := keep R1
  have K2 := keep R2
  have G1 := keep F1
  have G2 := keep F2
  have G3 := keep F3
  have G4 := keep F4
  have hr0 : ∃ r : Nat, 1 + 4 * ps.length = r := ⟨_, rfl⟩
  obtain ⟨r, hr⟩ := hr0
  have hrd : decide ((r : Int) < 0) = false := by simp
  have hrn : ((r : Int) != (r : Int)) = false := by simp
  have HR := keep hr
  clear R1 R2 F1 F2 F3 F4 hr
  go_enter Tryz.func3, Tryz.ntmps3
  go_wp2_with fail
  refine (K1.out w).mono ?_
  rintro e w1 ⟨a0, n0, k0, rfl, o0, hb1⟩
  unfold cloudV
  have B1 := keep hb1
  have O0 := keep (o0.alloc (.cells #[.int .i64 wd, .int .i64 hg, .slice a0 n0 k0, .float .f32 mg, .float .f32 bk] 27))
  have O0L := keep o0.lt
  have B10 := keep (B1.out.alloc B1.out.size (.cells #[.int .i64 wd, .int .i64 hg, .slice a0 n0 k0, .float .f32 mg, .float .f32 bk] 27))
  clear hb1 o0
  go_wp2_with fail
  refine (K2.out _ (HMX.out.below B10.out (Nat.le_refl _) h0) (HER.out.below B10.out (Nat.le_refl _)) (HTZ.out.below B10.out (Nat.le_refl _)) (HPW.out.below B10.out (Nat.le_refl _)) (by rw [World.size_alloc]; omega)).mono ?_
  rintro e w2 ⟨a1, n1, k1, rfl, o1, hb2⟩
  unfold cloudV
  rw [World.size_alloc] at o1
  have p1 := (Has.made w1 27 #[.int .i64 wd, .int .i64 hg, .slice a0 n0 k0, .float .f32 mg, .float .f32 bk]).after hb2
  have B2 := keep ((B1.out.alloc B1.out.size (.cells #[.int .i64 wd, .int .i64 hg, .slice a0 n0 k0, .float .f32 mg, .float .f32 bk] 27)).trans (hb2.mono (by have := B1.out.size; simp; omega)))
  have O01 := keep ((owns_below O0.out hb2).alloc (.cells #[.int .i64 wd, .int .i64 hg, .slice a1 n1 k1, .float .f32 mg, .float .f32 bk] 27))
  have O11 := keep (o1.alloc (.cells #[.int .i64 wd, .int .i64 hg, .slice a1 n1 k1, .float .f32 mg, .float .f32 bk] 27))
  have hz2 := p1.in_heap
  have c1 := p1.cells
  have P1 := keep p1
  have O1L := keep o1.lt
  clear o1 hb2 p1
  go_wp2_with fail
  refine (eqCloud_any _ _ _ _ ps wd hg mg bk _ O11.out O01.out G1.out (by have := G2.out; omega) G3.out G4.out).mono ?_
  rintro e w3 ⟨rfl, hb3⟩
  have p1 := (P1.out.beside (.cells #[.int .i64 wd, .int .i64 hg, .slice a1 n1 k1, .float .f32 mg, .float .f32 bk] 27)).after hb3
  have p2 := (Has.made w2 27 #[.int .i64 wd, .int .i64 hg, .slice a1 n1 k1, .float .f32 mg, .float .f32 bk]).after hb3
  have O02 := keep (owns_below O01.out hb3)
  have O12 := keep (owns_below O11.out hb3)
  have B3 := keep ((B2.out.alloc B2.out.size (.cells #[.int .i64 wd, .int .i64 hg, .slice a1 n1 k1, .float .f32 mg, .float .f32 bk] 27)).trans (hb3.mono (by have := B2.out.size; simp; omega)))
  have M1 := markCloud_any _ _ ps 1 wd hg mg bk w3 O12.out (by have := G2.out; omega)
  rw [HR.out] at M1
  have M1 := keep M1
  have hrow : ∀ g, (Value.slice a1 n1 k1).ownBlock = some g → w1.heap.size + 1 ≤ g ∧ g < w2.heap.size := by
    intro g hg
    have h := O1L.out g hg
    omega
  have Hrow := keep hrow
  have c1 := p1.cells
  have c2 := p2.cells
  have hz3 := p2.in_heap
  have P1 := keep p1
  have P2 := keep p2
  clear hb3 p1 p2 O01 O11 hrow
  unfold cloudV at M1
  go_wp2_with fail
  refine M1.out.mono ?_
  rintro e w4 ⟨rfl, o12, hg4⟩
  have p1 := P1.out.grown hg4 (fun e => by have := Hrow.out _ e; omega)
  have p2 := P2.out.grown hg4 (fun e => by have := Hrow.out _ e; omega)
  have O03 := keep (owns_other O02.out hg4 (fun g hg e => by have := Hrow.out _ e; have := O0L.out g hg; omega))
  have B4 := keep (B3.out.grown hg4 B3.out.size (fun g e => by have := Hrow.out _ e; have := B1.out.size; omega))
  have D1 := heldCloud_any _ _ _ 1 wd hg mg bk w4 o12 (by have := G2.out; omega)
  rw [HR.out] at D1
  have D1 := keep D1
  have O13 := keep o12
  have c1 := p1.cells
  have c2 := p2.cells
  have hz4 := p2.in_heap
  have P1 := keep p1
  have P2 := keep p2
  clear hg4 p1 p2 O02 O12 o12 hz2 hz3
  unfold cloudV at D1
  go_wp2_with fail
  refine D1.out.mono ?_
  rintro e w5 ⟨rfl, hb5⟩
  have p1 := P1.out.after hb5
  have p2 := P2.out.after hb5
  have O04 := keep (owns_below O03.out hb5)
  have O14 := keep (owns_below O13.out hb5)
  have B5 := keep (B4.out.trans (hb5.mono B4.out.size))
  have P1 := keep p1
  have P2 := keep p2
  clear hb5 p1 p2 O03 O13 c1 c2 D1 M1
  go_wp2_with fail
  refine (K2.out _ (HMX.out.below B5.out (Nat.le_refl _) h0) (HER.out.below B5.out (Nat.le_refl _)) (HTZ.out.below B5.out (Nat.le_refl _)) (HPW.out.below B5.out (Nat.le_refl _)) (Nat.lt_of_lt_of_le h0 B5.out.size)).mono ?_
  rintro e w6 ⟨a2, n2, k2, rfl, o2, hb6⟩
  unfold cloudV
  have p1 := P1.out.after hb6
  have p2 := P2.out.after hb6
  have B6 := keep (B5.out.trans (hb6.mono B5.out.size))
  have O05 := keep ((owns_below O04.out hb6).alloc (.cells #[.int .i64 wd, .int .i64 hg, .slice a2 n2 k2, .float .f32 mg, .float .f32 bk] 27))
  have O15 := keep ((owns_below O14.out hb6).alloc (.cells #[.int .i64 wd, .int .i64 hg, .slice a2 n2 k2, .float .f32 mg, .float .f32 bk] 27))
  have O25 := keep (o2.alloc (.cells #[.int .i64 wd, .int .i64 hg, .slice a2 n2 k2, .float .f32 mg, .float .f32 bk] 27))
  have c1 := p1.cells
  have z1 := p1.in_heap
  have P1 := keep p1
  have P2 := keep p2
  clear hb6 p1 p2 O04 O14 o2
  go_wp2_with fail
  refine (eqCloud_any _ _ _ _ ps wd hg mg bk _ O25.out O05.out G1.out (by have := G2.out; omega) G3.out G4.out).mono ?_
  rintro e w7 ⟨rfl, hb7⟩
  have p2 := (P2.out.beside (.cells #[.int .i64 wd, .int .i64 hg, .slice a2 n2 k2, .float .f32 mg, .float .f32 bk] 27)).after hb7
  have B7 := keep ((B6.out.alloc B6.out.size (.cells #[.int .i64 wd, .int .i64 hg, .slice a2 n2 k2, .float .f32 mg, .float .f32 bk] 27)).trans (hb7.mono (by have := B6.out.size; simp; omega)))
  have D2 := heldCloud_any _ _ _ 1 wd hg mg bk w7 (owns_below O15.out hb7) (by have := G2.out; omega)
  rw [HR.out] at D2
  have D2 := keep D2
  unfold cloudV at D2
  have c2 := p2.cells
  clear c1 z1 p2 hb7
  go_wp2_with fail
  refine D2.out.mono ?_
  rintro e w8 ⟨rfl, hb8⟩
  have B8 := B7.out.trans (hb8.mono B7.out.size)
  go_wp2_with fail
  go_ret
  exact ⟨rfl, B8⟩

set_option maxHeartbeats 1000000 in
theorem lawReadC_long (s : ByteArray) (w : World) (hl : 1048576 < s.size) :
    Calls Tryz.prog 3 #[.string s] w fun e w' => e = .returned (.bool true) ∧ Below w.heap.size w w' := by
  have ht : decide ((1048576 : Int) < (s.size : Int)) = true := by simp; omega
  clear hl
  go_enter Tryz.func3, Tryz.ntmps3
  go_wp2_with fail
  go_ret
  exact ⟨rfl, Below.refl _ _⟩

theorem lawReadC_any (s : ByteArray) (w : World) (hmx : MX w) (her : ER w) (htz : TZ w) (hpw : P10 w) (h0 : 0 < w.heap.size) :
    Calls Tryz.prog 3 #[.string s] w fun e w' => e = .returned (.bool true) ∧ Below w.heap.size w w' := by
  rcases Nat.lt_or_ge 1048576 s.size with hl | hl
  · exact lawReadC_long s w hl
  · have h := lawReadC_mid s.data.toList w (by rw [bytes_len]; exact hl) hmx her htz hpw h0
    rw [← tx_of] at h
    exact h
end Go.Proofs.YtdkjaffnkgbcnaaGreatDoor
