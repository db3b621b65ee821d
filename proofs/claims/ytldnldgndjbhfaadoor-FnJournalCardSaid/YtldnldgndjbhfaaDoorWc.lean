/- Contract: the reference's text of a particle. No condition but that its words are below 2^32. -/
import Derived.Test.YtldnldgndjbhfaaDoorWb
import Derived.Deep.RegionHeld
import Derived.Deep.RegionHeld3
namespace Go.Proofs.YtldnldgndjbhfaaDoor
open Go.RowKit Go.Sort Ieee
set_option linter.unusedSimpArgs false

def comma : ByteArray := ⟨#[44]⟩
/-- A particle's words, and its text. -/
structure P6 where
  at' : Nat × Nat
  speed : Nat × Nat
  charge : Nat
  mass : Nat
def P6.ok (p : P6) : Prop := (p.at'.1 < 4294967296 ∧ p.at'.2 < 4294967296) ∧ (p.speed.1 < 4294967296 ∧ p.speed.2 < 4294967296) ∧ p.charge < 4294967296 ∧ p.mass < 4294967296
def ptxtC (p : P6) : ByteArray := hexC p.at' ++ ((⟨#[44]⟩ : ByteArray) ++ hexC p.speed)
def ptxtN (p : P6) : ByteArray := hexW p.charge ++ ((⟨#[44]⟩ : ByteArray) ++ hexW p.mass)
def ptxt (p : P6) : ByteArray := (ptxtC p ++ ⟨#[58]⟩) ++ ptxtN p
theorem hexC_size (p : Nat × Nat) (h1 : p.1 < 4294967296) (h2 : p.2 < 4294967296) : (hexC p).size = 16 := by
  unfold hexC; rw [app_size, hexW_size _ h1, hexW_size _ h2]
theorem one_size (b : UInt8) : (⟨#[b]⟩ : ByteArray).size = 1 := rfl
theorem ptxtC_size (p : P6) (h : p.ok) : (ptxtC p).size = 33 := by
  unfold ptxtC
  rw [app_size, app_size, one_size, hexC_size _ h.1.1 h.1.2, hexC_size _ h.2.1.1 h.2.1.2]
theorem ptxtN_size (p : P6) (h : p.ok) : (ptxtN p).size = 17 := by
  unfold ptxtN
  rw [app_size, app_size, one_size, hexW_size _ h.2.2.1, hexW_size _ h.2.2.2]
theorem ptxt_size (p : P6) (h : p.ok) : (ptxt p).size = 51 := by
  unfold ptxt
  rw [app_size, app_size, one_size, ptxtC_size p h, ptxtN_size p h]
theorem CText_at (p : P6) (h : p.ok) (B c : Nat) (w : World) (hh : Has w B 58 #[.complex .f32 p.at'.1 p.at'.2, .complex .f32 p.speed.1 p.speed.2]) : Calls Tryd.prog 39 #[.slice (some ⟨B, 0, none⟩) 2 c] w fun e w' => e = .returned (.string (ptxtC p)) ∧ Below w.heap.size w w' :=
  l01CText_two B c _ _ _ _ w (hh.cells 0) (hh.cells 1) (by rw [hexC_size _ h.1.1 h.1.2]; omega) (by rw [hexC_size _ h.2.1.1 h.2.1.2]; omega) (CHex_ok p.at' h.1.1 h.1.2) (CHex_ok p.speed h.2.1.1 h.2.1.2)
theorem NText_at (a b : Nat) (ha : a < 4294967296) (hb : b < 4294967296) (B c : Nat) (w : World) (hh : Has w B 29 #[.float .f32 a, .float .f32 b]) : Calls Tryd.prog 38 #[.slice (some ⟨B, 0, none⟩) 2 c] w fun e w' => e = .returned (.string (hexW a ++ ((⟨#[44]⟩ : ByteArray) ++ hexW b))) ∧ Below w.heap.size w w' :=
  l01NText_two B c _ _ _ _ w (hh.cells 0) (hh.cells 1) (by rw [hexW_size _ ha]; omega) (by rw [hexW_size _ hb]; omega) (Hex_ok a ha) (Hex_ok b hb)

/-- The cells of a particle. -/
def Pt (w : World) (g o : Nat) (p : P6) : Prop := w.cell? ⟨g, o, none⟩ = some (.complex .f32 p.at'.1 p.at'.2) ∧ w.cell? ⟨g, o + 1, none⟩ = some (.complex .f32 p.speed.1 p.speed.2) ∧ w.cell? ⟨g, o + 2, none⟩ = some (.float .f32 p.charge) ∧ w.cell? ⟨g, o + 3, none⟩ = some (.float .f32 p.mass)
theorem Pt.after {w w' : World} {g o : Nat} {p : P6} (h : Pt w g o p) (hb : Below w.heap.size w w') : Pt w' g o p := by
  obtain ⟨h0, h1, h2, h3⟩ := h
  have hg : g < w.heap.size := World.block_lt_of_cell? w _ h0
  exact ⟨(hb.cell (p := ⟨g, o, none⟩) hg).trans h0, (hb.cell (p := ⟨g, o + 1, none⟩) hg).trans h1, (hb.cell (p := ⟨g, o + 2, none⟩) hg).trans h2, (hb.cell (p := ⟨g, o + 3, none⟩) hg).trans h3⟩

set_option maxHeartbeats 8000000 in
set_option maxRecDepth 20000 in
theorem l11Particle_any (g o : Nat) (p : P6) (w : World) (hp : p.ok) (h : Pt w g o p) : Calls Tryd.prog 24 #[.pointer (some ⟨g, o, none⟩)] w fun e w' => e = .returned (.string (ptxt p)) ∧ Below w.heap.size w w' := by
  have CT := keep (fun B c w h => CText_at p hp B c w h)
  have NT := keep (fun B c w h => NText_at p.charge p.mass hp.2.2.1 hp.2.2.2 B c w h)
  have z1 := ptxtC_size p hp
  have z2 := ptxtN_size p hp
  have SOF := keep (fun (wz : World) (hg : Below w.heap.size w wz) => (⟨(h.after hg).1, (h.after hg).2.1, (h.after hg).2.2.1, (h.after hg).2.2.2, hg⟩ : wz.cell? ⟨g, o, none⟩ = some (.complex .f32 p.at'.1 p.at'.2) ∧ wz.cell? ⟨g, o + 1, none⟩ = some (.complex .f32 p.speed.1 p.speed.2) ∧ wz.cell? ⟨g, o + 2, none⟩ = some (.float .f32 p.charge) ∧ wz.cell? ⟨g, o + 3, none⟩ = some (.float .f32 p.mass) ∧ Below w.heap.size w wz))
  have GOS := keep (fun (wz : World) (hS : wz.cell? ⟨g, o, none⟩ = some (.complex .f32 p.at'.1 p.at'.2) ∧ wz.cell? ⟨g, o + 1, none⟩ = some (.complex .f32 p.speed.1 p.speed.2) ∧ wz.cell? ⟨g, o + 2, none⟩ = some (.float .f32 p.charge) ∧ wz.cell? ⟨g, o + 3, none⟩ = some (.float .f32 p.mass) ∧ Below w.heap.size w wz) => hS.2.2.2.2)
  unfold ptxt
  rw [show hexW p.charge ++ ((⟨#[44]⟩ : ByteArray) ++ hexW p.mass) = ptxtN p from rfl] at NT
  obtain ⟨c0, c1, c2, c3⟩ := h
  generalize ptxtC p = tc at *
  generalize ptxtN p = tn at *
  generalize p.at'.1 = x1 at *
  generalize p.at'.2 = x2 at *
  generalize p.speed.1 = x3 at *
  generalize p.speed.2 = x4 at *
  generalize p.charge = x5 at *
  generalize p.mass = x6 at *
  clear hp
  go_enter Tryd.func24, Tryd.ntmps24
  go_wp2_with fail
  clear c0 c1 c2 c3
  have S0 := SOF.out w (Below.refl _ _)
  have h1 := keep (show Has (w.alloc (.cells #[.complex .f32 x1 x2, .complex .f32 x3 x4] 58)).drew w.heap.size 58 #[.complex .f32 x1 x2, .complex .f32 x3 x4] from Has.made w _ _)
  have h2 := keep (show Has (w.alloc (.cells #[.float .f32 x5, .float .f32 x6] 29)).drew w.heap.size 29 #[.float .f32 x5, .float .f32 x6] from Has.made w _ _)
  have h12a := keep (show Has ((w.alloc (.cells #[.complex .f32 x1 x2, .complex .f32 x3 x4] 58)).alloc (.cells #[.float .f32 x5, .float .f32 x6] 29)).drew w.heap.size 58 #[.complex .f32 x1 x2, .complex .f32 x3 x4] from (Has.made w _ _).beside _)
  have h12b := keep (show Has ((w.alloc (.cells #[.complex .f32 x1 x2, .complex .f32 x3 x4] 58)).alloc (.cells #[.float .f32 x5, .float .f32 x6] 29)).drew (w.heap.size + 1) 29 #[.float .f32 x5, .float .f32 x6] from by have h := Has.made (w.alloc (.cells #[.complex .f32 x1 x2, .complex .f32 x3 x4] 58)) 29 #[.float .f32 x5, .float .f32 x6]; rw [World.size_alloc] at h; exact h)
  have h21a := keep (show Has ((w.alloc (.cells #[.float .f32 x5, .float .f32 x6] 29)).alloc (.cells #[.complex .f32 x1 x2, .complex .f32 x3 x4] 58)).drew (w.heap.size + 1) 58 #[.complex .f32 x1 x2, .complex .f32 x3 x4] from by have h := Has.made (w.alloc (.cells #[.float .f32 x5, .float .f32 x6] 29)) 58 #[.complex .f32 x1 x2, .complex .f32 x3 x4]; rw [World.size_alloc] at h; exact h)
  have h21b := keep (show Has ((w.alloc (.cells #[.float .f32 x5, .float .f32 x6] 29)).alloc (.cells #[.complex .f32 x1 x2, .complex .f32 x3 x4] 58)).drew w.heap.size 29 #[.float .f32 x5, .float .f32 x6] from (Has.made w _ _).beside _)
  have b1 := keep (show Below w.heap.size w (w.alloc (.cells #[.complex .f32 x1 x2, .complex .f32 x3 x4] 58)).drew from Below.drew ((Below.refl _ w).alloc (Nat.le_refl _) _))
  have b2 := keep (show Below w.heap.size w (w.alloc (.cells #[.float .f32 x5, .float .f32 x6] 29)).drew from Below.drew ((Below.refl _ w).alloc (Nat.le_refl _) _))
  have b12 := keep (show Below w.heap.size w ((w.alloc (.cells #[.complex .f32 x1 x2, .complex .f32 x3 x4] 58)).alloc (.cells #[.float .f32 x5, .float .f32 x6] 29)).drew from Below.drew (((Below.refl _ w).alloc (Nat.le_refl _) _).alloc (by simp) _))
  have b21 := keep (show Below w.heap.size w ((w.alloc (.cells #[.float .f32 x5, .float .f32 x6] 29)).alloc (.cells #[.complex .f32 x1 x2, .complex .f32 x3 x4] 58)).drew from Below.drew (((Below.refl _ w).alloc (Nat.le_refl _) _).alloc (by simp) _))
  have k1 := keep (CT.out w.heap.size 2 _ h1.out)
  have k2 := keep (NT.out w.heap.size 2 _ h2.out)
  have k12a := keep (CT.out w.heap.size 2 _ h12a.out)
  have k12b := keep (NT.out (w.heap.size + 1) 2 _ h12b.out)
  have k21a := keep (CT.out (w.heap.size + 1) 2 _ h21a.out)
  have k21b := keep (NT.out w.heap.size 2 _ h21b.out)
  go_region_held (fun wz => wz.cell? ⟨g, o, none⟩ = some (.complex .f32 x1 x2) ∧ wz.cell? ⟨g, o + 1, none⟩ = some (.complex .f32 x3 x4) ∧ wz.cell? ⟨g, o + 2, none⟩ = some (.float .f32 x5) ∧ wz.cell? ⟨g, o + 3, none⟩ = some (.float .f32 x6) ∧ Below w.heap.size w wz)
    (first
      | (with_reducible exact SOF.out _ (Below.refl _ _))
      | (with_reducible exact SOF.out _ B4.out)
      | (with_reducible exact SOF.out _ B3.out)
      | (with_reducible exact SOF.out _ (B3.out.alloc B3.out.size _))
      | (with_reducible exact SOF.out _ b1.out)
      | (with_reducible exact SOF.out _ b2.out)
      | (with_reducible exact SOF.out _ b12.out)
      | (with_reducible exact SOF.out _ b21.out)
      | (with_reducible exact SOF.out _ (Below.drew (Below.refl _ _))))
    (first
      | ((with_reducible refine k1.out.mono ?_)
         rintro e w3 ⟨rfl, hb3⟩
         have B3 := keep (b1.out.trans (hb3.mono b1.out.size))
         have NX := keep (NT.out w3.heap.size 2 (w3.alloc (.cells #[.float .f32 x5, .float .f32 x6] 29)) (Has.made w3 _ _))
         clear hb3)
      | ((with_reducible refine k2.out.mono ?_)
         rintro e w3 ⟨rfl, hb3⟩
         have B3 := keep (b2.out.trans (hb3.mono b2.out.size))
         have NX := keep (CT.out w3.heap.size 2 (w3.alloc (.cells #[.complex .f32 x1 x2, .complex .f32 x3 x4] 58)) (Has.made w3 _ _))
         clear hb3)
      | ((with_reducible refine k12a.out.mono ?_)
         rintro e w3 ⟨rfl, hb3⟩
         have B3 := keep (b12.out.trans (hb3.mono b12.out.size))
         have NX := keep (NT.out (w.heap.size + 1) 2 w3 (h12b.out.after hb3))
         clear hb3)
      | ((with_reducible refine k12b.out.mono ?_)
         rintro e w3 ⟨rfl, hb3⟩
         have B3 := keep (b12.out.trans (hb3.mono b12.out.size))
         have NX := keep (CT.out w.heap.size 2 w3 (h12a.out.after hb3))
         clear hb3)
      | ((with_reducible refine k21a.out.mono ?_)
         rintro e w3 ⟨rfl, hb3⟩
         have B3 := keep (b21.out.trans (hb3.mono b21.out.size))
         have NX := keep (NT.out w.heap.size 2 w3 (h21b.out.after hb3))
         clear hb3)
      | ((with_reducible refine k21b.out.mono ?_)
         rintro e w3 ⟨rfl, hb3⟩
         have B3 := keep (b21.out.trans (hb3.mono b21.out.size))
         have NX := keep (CT.out (w.heap.size + 1) 2 w3 (h21a.out.after hb3))
         clear hb3)
      | ((with_reducible refine NX.out.mono ?_)
         rintro e w4 ⟨rfl, hb4⟩
         have B4 := keep (show Below w.heap.size w w4 from by first | exact B3.out.trans (hb4.mono B3.out.size) | exact (B3.out.alloc B3.out.size _).trans (hb4.mono (B3.out.alloc B3.out.size _).size))
         clear hb4))
  all_goals
    go_wp2_with fail
    go_ret
    exact ⟨rfl, B4.out⟩
end Go.Proofs.YtldnldgndjbhfaaDoor
