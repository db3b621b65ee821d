/- The law FnExactNewDesk: the program's NewDesk returns what the reference's returns, in memory of its own. -/
import Derived.Test.YtafaabhnkjjkcaaCloud
namespace Go.Proofs.Ytafaabhnkjjkcaa
open Go.RowKit Go.Sort

theorem Has.grown {w w' : World} {g : Nat} {t : TypeId} {cs : Array Value} {row : Option Nat} (h : Has w g t cs) (hg : w.grownBy w' row) (hne : row ≠ some g) : Has w' g t cs :=
  (hg.block g h.in_heap (fun e => hne e.symm)).trans h

theorem owns_other {w w' : World} {B e n size : Nat} {v : Value} {xs : List Value} {row : Option Nat} (h : w.ownsRow B e size v n xs) (hg : w.grownBy w' row) (hne : ∀ g, v.ownBlock = some g → row ≠ some g) : w'.ownsRow B e size v n xs := by
  refine h.kept hg ?_
  cases hv : v.ownBlock with
  | none => exact .inl rfl
  | some g => exact .inr fun e => hne g hv e.symm

/-- What a call hands back that makes a cloud. -/
def CloudOut (wd hg : Int) (ps : List PD) (mg bk : Nat) (w : World) (e : Ending) (w' : World) : Prop :=
  ∃ a n c, e = .returned (cloudV wd hg (.slice a n c) mg bk) ∧ w'.ownsRow w.heap.size 25 4 (.slice a n c) ps.length (psCells ps) ∧ Below w.heap.size w w'

set_option maxHeartbeats 1000000 in
set_option maxRecDepth 20000 in
theorem NewDesk_any (w : World) : Calls Try.prog 13 #[] w (CloudOut 4 4 [] 0 0 w) := by
  go_enter Try.func13, Try.ntmps13
  go_wp2_with fail
  go_returns
  exact ⟨_, _, _, rfl, World.ownsRow_nil _ _ _ _, by go_grown⟩

set_option maxHeartbeats 1000000 in
set_option maxRecDepth 20000 in
theorem sNewDesk_any (w : World) : Calls Try.prog 12 #[] w (CloudOut 4 4 [] 0 0 w) := by
  go_enter Try.func12, Try.ntmps12
  go_wp2
  go_returns
  refine ⟨_, _, _, rfl, ⟨rfl, .inr ⟨w.heap.size + 1 + 1, 0, #[], rfl, by omega, ?_, Nat.le_refl _, Nat.zero_le _, rfl, rfl⟩⟩, by go_grown⟩
  have h := fun (c1 c2 : Array Value) => heap_alloc_new ((w.alloc (.cells c1 34)).alloc (.cells c2 34)) (.cells #[] 25)
  simp only [World.size_alloc] at h
  exact h _ _

set_option maxHeartbeats 2000000 in
set_option maxRecDepth 20000 in
/-- The law, of any two functions that make one cloud. -/
theorem lawDesk_any (w : World) :
    Calls Try.prog 4 #[] w fun e w' => e = .returned (.bool true) ∧ Below w.heap.size w w' := by
  go_enter Try.func4, Try.ntmps4
  go_wp2_with fail
  refine (sNewDesk_any w).mono ?_
  rintro e w1 ⟨a0, n0, k0, rfl, o0, hb1⟩
  unfold cloudV
  have B1 := keep hb1
  have O0 := keep (o0.alloc (.cells #[.int .i64 4, .int .i64 4, .slice a0 n0 k0, .float .f32 0, .float .f32 0] 34))
  have O0L := keep o0.lt
  clear hb1 o0
  go_wp2_with fail
  refine (NewDesk_any _).mono ?_
  rintro e w2 ⟨a1, n1, k1, rfl, o1, hb2⟩
  unfold cloudV
  rw [World.size_alloc] at o1
  have p1 := (Has.made w1 34 #[.int .i64 4, .int .i64 4, .slice a0 n0 k0, .float .f32 0, .float .f32 0]).after hb2
  have B2 := keep ((B1.out.alloc B1.out.size (.cells #[.int .i64 4, .int .i64 4, .slice a0 n0 k0, .float .f32 0, .float .f32 0] 34)).trans (hb2.mono (by have := B1.out.size; simp; omega)))
  have O01 := keep ((owns_below O0.out hb2).alloc (.cells #[.int .i64 4, .int .i64 4, .slice a1 n1 k1, .float .f32 0, .float .f32 0] 34))
  have O11 := keep (o1.alloc (.cells #[.int .i64 4, .int .i64 4, .slice a1 n1 k1, .float .f32 0, .float .f32 0] 34))
  have hz2 := p1.in_heap
  have c1 := p1.cells
  have P1 := keep p1
  have O1L := keep o1.lt
  clear o1 hb2 p1
  go_wp2_with fail
  refine (eqCloud_any _ _ _ _ [] 4 4 0 0 _ O11.out O01.out rfl (by simp) (by decide +kernel) (by decide +kernel)).mono ?_
  rintro e w3 ⟨rfl, hb3⟩
  have p1 := (P1.out.beside (.cells #[.int .i64 4, .int .i64 4, .slice a1 n1 k1, .float .f32 0, .float .f32 0] 34)).after hb3
  have p2 := (Has.made w2 34 #[.int .i64 4, .int .i64 4, .slice a1 n1 k1, .float .f32 0, .float .f32 0]).after hb3
  have O02 := keep (owns_below O01.out hb3)
  have O12 := keep (owns_below O11.out hb3)
  have B3 := keep ((B2.out.alloc B2.out.size (.cells #[.int .i64 4, .int .i64 4, .slice a1 n1 k1, .float .f32 0, .float .f32 0] 34)).trans (hb3.mono (by have := B2.out.size; simp; omega)))
  have M1 := keep (markCloud_any _ _ [] 1 4 4 0 0 w3 O12.out (by simp))
  have hrow : ∀ g, (Value.slice a1 n1 k1).ownBlock = some g → w1.heap.size + 1 ≤ g ∧ g < w2.heap.size := by
    intro g hg
    have h := O1L.out g hg
    omega
  have Hrow := keep hrow
  have c1 := p1.cells
  have c2 := p2.cells
  have hz3 := p2.in_heap
  have P1 := keep p1
  have P2 := keep p2
  clear hb3 p1 p2 O01 O11 hrow
  unfold cloudV at M1
  go_wp2_with fail
  refine M1.out.mono ?_
  rintro e w4 ⟨rfl, o12, hg4⟩
  have p1 := P1.out.grown hg4 (fun e => by have := Hrow.out _ e; omega)
  have p2 := P2.out.grown hg4 (fun e => by have := Hrow.out _ e; omega)
  have O03 := keep (owns_other O02.out hg4 (fun g hg e => by have := Hrow.out _ e; have := O0L.out g hg; omega))
  have B4 := keep (B3.out.grown hg4 B3.out.size (fun g e => by have := Hrow.out _ e; have := B1.out.size; omega))
  have D1 := keep (heldCloud_any _ _ _ 1 4 4 0 0 w4 o12 (by simp))
  have O13 := keep o12
  have c1 := p1.cells
  have c2 := p2.cells
  have hz4 := p2.in_heap
  have P1 := keep p1
  have P2 := keep p2
  clear hg4 p1 p2 O02 O12 o12 hz2 hz3
  unfold cloudV at D1
  go_wp2_with fail
  refine D1.out.mono ?_
  rintro e w5 ⟨rfl, hb5⟩
  have p1 := P1.out.after hb5
  have p2 := P2.out.after hb5
  have O04 := keep (owns_below O03.out hb5)
  have O14 := keep (owns_below O13.out hb5)
  have B5 := keep (B4.out.trans (hb5.mono B4.out.size))
  have P1 := keep p1
  have P2 := keep p2
  clear hb5 p1 p2 O03 O13 c1 c2 D1 M1
  go_wp2_with fail
  refine (NewDesk_any _).mono ?_
  rintro e w6 ⟨a2, n2, k2, rfl, o2, hb6⟩
  unfold cloudV
  have p1 := P1.out.after hb6
  have p2 := P2.out.after hb6
  have B6 := keep (B5.out.trans (hb6.mono B5.out.size))
  have O05 := keep ((owns_below O04.out hb6).alloc (.cells #[.int .i64 4, .int .i64 4, .slice a2 n2 k2, .float .f32 0, .float .f32 0] 34))
  have O15 := keep ((owns_below O14.out hb6).alloc (.cells #[.int .i64 4, .int .i64 4, .slice a2 n2 k2, .float .f32 0, .float .f32 0] 34))
  have O25 := keep (o2.alloc (.cells #[.int .i64 4, .int .i64 4, .slice a2 n2 k2, .float .f32 0, .float .f32 0] 34))
  have c1 := p1.cells
  have z1 := p1.in_heap
  have P1 := keep p1
  have P2 := keep p2
  clear hb6 p1 p2 O04 O14 o2
  go_wp2_with fail
  refine (eqCloud_any _ _ _ _ [] 4 4 0 0 _ O25.out O05.out rfl (by simp) (by decide +kernel) (by decide +kernel)).mono ?_
  rintro e w7 ⟨rfl, hb7⟩
  have p2 := (P2.out.beside (.cells #[.int .i64 4, .int .i64 4, .slice a2 n2 k2, .float .f32 0, .float .f32 0] 34)).after hb7
  have B7 := keep ((B6.out.alloc B6.out.size (.cells #[.int .i64 4, .int .i64 4, .slice a2 n2 k2, .float .f32 0, .float .f32 0] 34)).trans (hb7.mono (by have := B6.out.size; simp; omega)))
  have D2 := keep (heldCloud_any _ _ _ 1 4 4 0 0 w7 (owns_below O15.out hb7) (by simp))
  unfold cloudV at D2
  have c2 := p2.cells
  clear c1 z1 p2 hb7
  go_wp2_with fail
  refine D2.out.mono ?_
  rintro e w8 ⟨rfl, hb8⟩
  have B8 := B7.out.trans (hb8.mono B7.out.size)
  go_wp2_with fail
  go_ret
  exact ⟨rfl, B8⟩
end Go.Proofs.Ytafaabhnkjjkcaa
