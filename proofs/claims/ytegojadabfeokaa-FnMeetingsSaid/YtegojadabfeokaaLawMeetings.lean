/- The law FnMeetings by its walk: two particles that meet keep their momentum, their energy and the length of the difference of their speeds, nearly, and are thrown back twice to what they were, nearly. No condition but that the bytes can be read. -/
import Derived.Test.YtegojadabfeokaaDg
import Derived.Test.YtegojadabfeokaaDh
import Derived.Test.YtegojadabfeokaaBk
import Derived.Test.YtegojadabfeokaaBl
import Derived.Deep.DeepCutAuto
namespace Go.Proofs.Ytegojadabfeokaa
open Go.RowKit Go.Sort Ieee
set_option linter.unusedSimpArgs false
set_option linter.unusedVariables false

theorem two_made (w : World) (t : TypeId) (C D : Array Value) : Has ((w.alloc (.cells C t)).alloc (.cells D t)) w.heap.size t C ∧ Has ((w.alloc (.cells C t)).alloc (.cells D t)) (w.heap.size + 1) t D := by
  refine ⟨(Has.made w t C).beside (.cells D t), ?_⟩
  have h := Has.made (w.alloc (.cells C t)) t D
  rwa [World.size_alloc] at h
theorem turn_words : ∀ k : Fin 17, decide (floatToFloatBits .f32 (wd single 3 ((k.val : Int) - 8)) .f64 = some (e8 ((k.val : Int) - 8))) = true := by decide +kernel
theorem turn_word (n : Int) (h0 : -8 ≤ n) (h1 : n ≤ 8) : ∃ k : Nat, k < 17 ∧ floatToFloatBits .f32 (wd single 3 n) .f64 = some (e8 ((k : Int) - 8)) ∧ Nm single (wd single 3 n) := by
  refine ⟨(n + 8).toNat, by omega, ?_, (wd8 n (by omega) (by omega)).1⟩
  have h := of_decide_eq_true (turn_words ⟨(n + 8).toNat, by omega⟩)
  have e : (((n + 8).toNat : Nat) : Int) - 8 = n := by omega
  rwa [e] at h ⊢
theorem ph_nm (k : Nat) : Nm single (phC (k % 8 / 2) (k % 8 % 2)) ∧ Nm single (phS (k % 8 / 2) (k % 8 % 2)) ∧ Cl (V single (phC (k % 8 / 2) (k % 8 % 2)) * V single (phC (k % 8 / 2) (k % 8 % 2)) + V single (phS (k % 8 / 2) (k % 8 % 2)) * V single (phS (k % 8 / 2) (k % 8 % 2))) 1 (1 / 1000000) := by
  have h := ph_fin ⟨k % 8 / 2, by omega⟩ ⟨k % 8 % 2, by omega⟩
  have l := ph_len ⟨k % 8 / 2, by omega⟩ ⟨k % 8 % 2, by omega⟩
  simp only [Bool.and_eq_true] at h
  exact ⟨Nm_of_fin h.1, Nm_of_fin h.2, l⟩
theorem half_word : e8 (((12 : Nat) : Int) - 8) = 4602678819172646912 := by decide +kernel
theorem num_self {z : Nat} (n : Nm single z) : (FloatKind.f32.format.order z z == some .eq) = true := by
  have o := order_V n n
  rw [show FloatKind.f32.format.order z z = single.order z z from rfl, o, if_neg (by grind), if_pos rfl]; rfl
theorem wd_small (k : Nat) (n : Int) : wd single k n < 4294967296 := by
  have h := wd_lt single k n
  have e : (2 : Nat) ^ single.width = 4294967296 := by decide
  rwa [e] at h

set_option maxHeartbeats 32000000 in
set_option maxRecDepth 100000 in
theorem lawMeetings_any (a1 a2 : Option Addr) (n1 c1 n2 c2 : Nat) (w : World) (hb1 : Bytes w a1 n1) (hb2 : Bytes w a2 n2) :
    Calls Try.prog 5 #[.slice a1 n1 c1, .slice a2 n2 c2] w fun e w' => e = .returned (.bool true) ∧ Below w.heap.size w w' := by
  have LO := keep (fun w => r8Long_any a1 a2 n1 c1 n2 c2 w)
  cases hl : (decide (48 < n1) || decide (48 < n2))
  case true =>
    rw [hl] at LO
    clear hl hb1 hb2
    go_enter Try.func5, Try.ntmps5
    go_wp2_with fail
    refine (LO.out _).mono ?_
    rintro e w' ⟨rfl, rfl⟩
    go_wp2_with fail
    go_ret
    exact ⟨rfl, Below.refl _ _⟩
  case false =>
    rw [hl] at LO
    have RP := keep (R8Particle_ok a1 n1 c1 w hb1)
    have HB2 := keep hb2
    clear hl hb1 hb2
    go_enter Try.func5, Try.ntmps5
    go_wp2_with fail
    refine (LO.out _).mono ?_
    rintro e wz ⟨rfl, hwz⟩
    have hwz := hwz.symm
    subst hwz
    go_wp2_with fail
    refine RP.out.mono ?_
    rintro e w1 ⟨p, hp, rfl, hb⟩
    have IP := pin_of p hp 0 0 0 0 ⟨by omega, by omega⟩ ⟨by omega, by omega⟩ ⟨by omega, by omega⟩ ⟨by omega, by omega⟩
    have LX := wd_small 3 p.x
    have LY := wd_small 3 p.y
    unfold GP.agg
    generalize wd single 3 0 = zz at *
    generalize wd single 3 p.x = x1 at *
    generalize wd single 3 p.y = y1 at *
    generalize wd single 3 p.u = u1 at *
    generalize wd single 3 p.v = u2 at *
    generalize wd single 1 p.q = q1 at *
    generalize wd single 2 p.m = ma at *
    have BA := keep (hb.alloc hb.size (.cells #[.complex .f32 x1 y1, .complex .f32 u1 u2, .float .f32 q1, .float .f32 ma] 27))
    have HB := keep (baft HB2.out BA.out)
    have H5 := keep (Has.made w1 27 #[.complex .f32 x1 y1, .complex .f32 u1 u2, .float .f32 q1, .float .f32 ma])
    clear p hp RP LO hb HB2
    go_wp2_with fail
    generalize w1.alloc (.cells #[.complex .f32 x1 y1, .complex .f32 u1 u2, .float .f32 q1, .float .f32 ma] 27) = W1 at *
    refine (R8Particle_ok a2 n2 c2 W1 HB.out).mono ?_
    rintro e w2 ⟨p, hp, rfl, hb⟩
    have IQ := pin_of p hp 0 0 0 0 ⟨by omega, by omega⟩ ⟨by omega, by omega⟩ ⟨by omega, by omega⟩ ⟨by omega, by omega⟩
    unfold GP.agg
    generalize wd single 3 0 = zz2 at *
    generalize wd single 3 p.x = x2 at *
    generalize wd single 3 p.y = y2 at *
    generalize wd single 3 p.u = v1 at *
    generalize wd single 3 p.v = v2 at *
    generalize wd single 1 p.q = q2 at *
    generalize wd single 2 p.m = mb at *
    have BB := keep ((BA.out.trans (hb.mono BA.out.size)).alloc (BA.out.trans (hb.mono BA.out.size)).size (.cells #[.complex .f32 x2 y2, .complex .f32 v1 v2, .float .f32 q2, .float .f32 mb] 27))
    have HB3 := keep (baft HB.out (hb.alloc hb.size (.cells #[.complex .f32 x2 y2, .complex .f32 v1 v2, .float .f32 q2, .float .f32 mb] 27)))
    have H5a := keep ((H5.out.after hb).beside (.cells #[.complex .f32 x2 y2, .complex .f32 v1 v2, .float .f32 q2, .float .f32 mb] 27))
    have H6a := keep (Has.made w2 27 #[.complex .f32 x2 y2, .complex .f32 v1 v2, .float .f32 q2, .float .f32 mb])
    clear p hp hb HB BA H5
    go_wp2_with fail
    generalize w2.alloc (.cells #[.complex .f32 x2 y2, .complex .f32 v1 v2, .float .f32 q2, .float .f32 mb] 27) = w3 at *
    refine (R8Number_ok a2 n2 c2 40 w3 HB3.out (by omega)).mono ?_
    rintro e w' ⟨tk, htk, rfl, hw⟩
    have hw := hw.symm
    subst hw
    obtain ⟨k, hk, hT, ntn⟩ := turn_word tk htk.1 htk.2
    have PH := keep (fun w => PhasorOf_ok k hk w)
    obtain ⟨nc, ns, hcs⟩ := ph_nm k
    have PB := keep (fun w => PhasorOf_ok 12 (by omega) w)
    rw [half_word] at PB
    obtain ⟨nbc, nbs, _⟩ := ph_nm 12
    have hbc := ph_half.1
    have hbs := ph_half.2
    have MI : MIn u1 u2 v1 v2 ma mb 1 := ⟨IP.P.hu, IP.P.hv, IQ.P.hu, IQ.P.hv, IP.P.hm, IQ.P.hm, IP.bu, IP.bv, IQ.bu, IQ.bv, IP.m0, IP.m1, IQ.m0, IQ.m1⟩
    obtain ⟨px, py, o1, o2, t1, t2, e1, e2, f1, f2, qx, qy, g1, g2, h1, h2, b1, b2, c1', c2', D1, X, Y, X6, Y6, G1, Da, Db, G2, D3, D4, D5, T⟩ := told_meet MI nc ns hcs nbc nbs hbc hbs
    have T := keep T
    have IP := keep IP
    have IQ := keep IQ
    have NT := keep ntn
    have HT := keep hT
    have LX := keep LX
    have LY := keep LY
    clear hcs nc ns nbc nbs hbc hbs MI ntn hT hk htk HB3
    change Kept (∀ w, Calls Try.prog 54 #[.float .f64 4602678819172646912] w fun e w' => e = .returned (.complex .f32 (phC 2 0) (phS 2 0)) ∧ ∃ m, w' = w.drewN m) at PB
    have hc5 := H5a.out.cells
    have hc6 := H6a.out.cells
    go_wp2_with fail
    refine (bMeet IP.out.P IQ.out.P T.out.B1 T.out.npx T.out.npy NT.out HT.out PH.out T.out.M1 T.out.no _).mono ?_
    rintro e wk1 ⟨rfl, hb⟩
    have H5c1 := keep (H5a.out.after hb)
    have H6c1 := keep (H6a.out.after hb)
    have B1c := keep (BB.out.trans (hb.mono BB.out.size))
    clear hb H5a H6a BB
    clear hc5 hc6
    unfold pAgg
    have H5d1 := keep ((H5c1.out.beside (.cells #[.complex .f32 x1 y1, .complex .f32 o1 o2, .float .f32 q1, .float .f32 ma] 27)).beside (.cells #[.complex .f32 x2 y2, .complex .f32 t1 t2, .float .f32 q2, .float .f32 mb] 27))
    have H6d1 := keep ((H6c1.out.beside (.cells #[.complex .f32 x1 y1, .complex .f32 o1 o2, .float .f32 q1, .float .f32 ma] 27)).beside (.cells #[.complex .f32 x2 y2, .complex .f32 t1 t2, .float .f32 q2, .float .f32 mb] 27))
    have H8d1 := keep (two_made wk1 27 #[.complex .f32 x1 y1, .complex .f32 o1 o2, .float .f32 q1, .float .f32 ma] #[.complex .f32 x2 y2, .complex .f32 t1 t2, .float .f32 q2, .float .f32 mb]).1
    have H9d1 := keep (two_made wk1 27 #[.complex .f32 x1 y1, .complex .f32 o1 o2, .float .f32 q1, .float .f32 ma] #[.complex .f32 x2 y2, .complex .f32 t1 t2, .float .f32 q2, .float .f32 mb]).2
    have B1d := keep ((B1c.out.alloc B1c.out.size (.cells #[.complex .f32 x1 y1, .complex .f32 o1 o2, .float .f32 q1, .float .f32 ma] 27)).alloc (B1c.out.alloc B1c.out.size (.cells #[.complex .f32 x1 y1, .complex .f32 o1 o2, .float .f32 q1, .float .f32 ma] 27)).size (.cells #[.complex .f32 x2 y2, .complex .f32 t1 t2, .float .f32 q2, .float .f32 mb] 27))
    obtain ⟨X1, hX⟩ : ∃ X, X = (wk1.alloc (.cells #[.complex .f32 x1 y1, .complex .f32 o1 o2, .float .f32 q1, .float .f32 ma] 27)).alloc (.cells #[.complex .f32 x2 y2, .complex .f32 t1 t2, .float .f32 q2, .float .f32 mb] 27) := ⟨_, rfl⟩
    rw [← hX] at H5d1 H6d1 H8d1 H9d1 B1d
    have HX := keep hX
    clear hX
    clear H5c1 H6c1 B1c
    go_upto_region 7 with fail
    rw [← HX.out]
    clear HX
    have hc5 := H5d1.out.cells
    have hc6 := H6d1.out.cells
    go_wp2_with fail
    refine (bBump IP.out.P IQ.out.P T.out.B1 T.out.npx T.out.npy PB.out T.out.M2 T.out.ne _).mono ?_
    rintro e wk2 ⟨rfl, hb⟩
    have H5c2 := keep (H5d1.out.after hb)
    have H6c2 := keep (H6d1.out.after hb)
    have H8c2 := keep (H8d1.out.after hb)
    have H9c2 := keep (H9d1.out.after hb)
    have B2c := keep (B1d.out.trans (hb.mono B1d.out.size))
    clear hb H5d1 H6d1 H8d1 H9d1 B1d
    clear hc5 hc6
    unfold pAgg
    have H5d2 := keep ((H5c2.out.beside (.cells #[.complex .f32 x1 y1, .complex .f32 e1 e2, .float .f32 q1, .float .f32 ma] 27)).beside (.cells #[.complex .f32 x2 y2, .complex .f32 f1 f2, .float .f32 q2, .float .f32 mb] 27))
    have H6d2 := keep ((H6c2.out.beside (.cells #[.complex .f32 x1 y1, .complex .f32 e1 e2, .float .f32 q1, .float .f32 ma] 27)).beside (.cells #[.complex .f32 x2 y2, .complex .f32 f1 f2, .float .f32 q2, .float .f32 mb] 27))
    have H8d2 := keep ((H8c2.out.beside (.cells #[.complex .f32 x1 y1, .complex .f32 e1 e2, .float .f32 q1, .float .f32 ma] 27)).beside (.cells #[.complex .f32 x2 y2, .complex .f32 f1 f2, .float .f32 q2, .float .f32 mb] 27))
    have H9d2 := keep ((H9c2.out.beside (.cells #[.complex .f32 x1 y1, .complex .f32 e1 e2, .float .f32 q1, .float .f32 ma] 27)).beside (.cells #[.complex .f32 x2 y2, .complex .f32 f1 f2, .float .f32 q2, .float .f32 mb] 27))
    have H11d2 := keep (two_made wk2 27 #[.complex .f32 x1 y1, .complex .f32 e1 e2, .float .f32 q1, .float .f32 ma] #[.complex .f32 x2 y2, .complex .f32 f1 f2, .float .f32 q2, .float .f32 mb]).1
    have H12d2 := keep (two_made wk2 27 #[.complex .f32 x1 y1, .complex .f32 e1 e2, .float .f32 q1, .float .f32 ma] #[.complex .f32 x2 y2, .complex .f32 f1 f2, .float .f32 q2, .float .f32 mb]).2
    have B2d := keep ((B2c.out.alloc B2c.out.size (.cells #[.complex .f32 x1 y1, .complex .f32 e1 e2, .float .f32 q1, .float .f32 ma] 27)).alloc (B2c.out.alloc B2c.out.size (.cells #[.complex .f32 x1 y1, .complex .f32 e1 e2, .float .f32 q1, .float .f32 ma] 27)).size (.cells #[.complex .f32 x2 y2, .complex .f32 f1 f2, .float .f32 q2, .float .f32 mb] 27))
    obtain ⟨X2, hX⟩ : ∃ X, X = (wk2.alloc (.cells #[.complex .f32 x1 y1, .complex .f32 e1 e2, .float .f32 q1, .float .f32 ma] 27)).alloc (.cells #[.complex .f32 x2 y2, .complex .f32 f1 f2, .float .f32 q2, .float .f32 mb] 27) := ⟨_, rfl⟩
    rw [← hX] at H5d2 H6d2 H8d2 H9d2 H11d2 H12d2 B2d
    have HX := keep hX
    clear hX
    clear H5c2 H6c2 H8c2 H9c2 B2c
    go_upto_region 8 with fail
    rw [← HX.out]
    clear HX
    have hc11 := H11d2.out.cells
    have hc12 := H12d2.out.cells
    go_wp2_with fail
    refine (bBump (PNm.mk IP.out.P.p IP.out.P.hx IP.out.P.hy T.out.ne.1 T.out.ne.2.1 IP.out.P.hq IP.out.P.hm) (PNm.mk IQ.out.P.p IQ.out.P.hx IQ.out.P.hy T.out.ne.2.2.1 T.out.ne.2.2.2 IQ.out.P.hq IQ.out.P.hm) T.out.B2 T.out.nqx T.out.nqy PB.out T.out.M3 T.out.ng _).mono ?_
    rintro e wk3 ⟨rfl, hb⟩
    have H5c3 := keep (H5d2.out.after hb)
    have H6c3 := keep (H6d2.out.after hb)
    have H8c3 := keep (H8d2.out.after hb)
    have H9c3 := keep (H9d2.out.after hb)
    have H11c3 := keep (H11d2.out.after hb)
    have H12c3 := keep (H12d2.out.after hb)
    have B3c := keep (B2d.out.trans (hb.mono B2d.out.size))
    clear hb H5d2 H6d2 H8d2 H9d2 H11d2 H12d2 B2d
    clear hc11 hc12
    unfold pAgg
    have H5d3 := keep ((H5c3.out.beside (.cells #[.complex .f32 x1 y1, .complex .f32 g1 g2, .float .f32 q1, .float .f32 ma] 27)).beside (.cells #[.complex .f32 x2 y2, .complex .f32 h1 h2, .float .f32 q2, .float .f32 mb] 27))
    have H6d3 := keep ((H6c3.out.beside (.cells #[.complex .f32 x1 y1, .complex .f32 g1 g2, .float .f32 q1, .float .f32 ma] 27)).beside (.cells #[.complex .f32 x2 y2, .complex .f32 h1 h2, .float .f32 q2, .float .f32 mb] 27))
    have H8d3 := keep ((H8c3.out.beside (.cells #[.complex .f32 x1 y1, .complex .f32 g1 g2, .float .f32 q1, .float .f32 ma] 27)).beside (.cells #[.complex .f32 x2 y2, .complex .f32 h1 h2, .float .f32 q2, .float .f32 mb] 27))
    have H9d3 := keep ((H9c3.out.beside (.cells #[.complex .f32 x1 y1, .complex .f32 g1 g2, .float .f32 q1, .float .f32 ma] 27)).beside (.cells #[.complex .f32 x2 y2, .complex .f32 h1 h2, .float .f32 q2, .float .f32 mb] 27))
    have H11d3 := keep ((H11c3.out.beside (.cells #[.complex .f32 x1 y1, .complex .f32 g1 g2, .float .f32 q1, .float .f32 ma] 27)).beside (.cells #[.complex .f32 x2 y2, .complex .f32 h1 h2, .float .f32 q2, .float .f32 mb] 27))
    have H12d3 := keep ((H12c3.out.beside (.cells #[.complex .f32 x1 y1, .complex .f32 g1 g2, .float .f32 q1, .float .f32 ma] 27)).beside (.cells #[.complex .f32 x2 y2, .complex .f32 h1 h2, .float .f32 q2, .float .f32 mb] 27))
    have H14d3 := keep (two_made wk3 27 #[.complex .f32 x1 y1, .complex .f32 g1 g2, .float .f32 q1, .float .f32 ma] #[.complex .f32 x2 y2, .complex .f32 h1 h2, .float .f32 q2, .float .f32 mb]).1
    have H15d3 := keep (two_made wk3 27 #[.complex .f32 x1 y1, .complex .f32 g1 g2, .float .f32 q1, .float .f32 ma] #[.complex .f32 x2 y2, .complex .f32 h1 h2, .float .f32 q2, .float .f32 mb]).2
    have B3d := keep ((B3c.out.alloc B3c.out.size (.cells #[.complex .f32 x1 y1, .complex .f32 g1 g2, .float .f32 q1, .float .f32 ma] 27)).alloc (B3c.out.alloc B3c.out.size (.cells #[.complex .f32 x1 y1, .complex .f32 g1 g2, .float .f32 q1, .float .f32 ma] 27)).size (.cells #[.complex .f32 x2 y2, .complex .f32 h1 h2, .float .f32 q2, .float .f32 mb] 27))
    obtain ⟨X3, hX⟩ : ∃ X, X = (wk3.alloc (.cells #[.complex .f32 x1 y1, .complex .f32 g1 g2, .float .f32 q1, .float .f32 ma] 27)).alloc (.cells #[.complex .f32 x2 y2, .complex .f32 h1 h2, .float .f32 q2, .float .f32 mb] 27) := ⟨_, rfl⟩
    rw [← hX] at H5d3 H6d3 H8d3 H9d3 H11d3 H12d3 H14d3 H15d3 B3d
    have HX := keep hX
    clear hX
    clear H5c3 H6c3 H8c3 H9c3 H11c3 H12c3 B3c
    go_upto_region 9 with fail
    rw [← HX.out]
    clear HX
    have hc5 := H5d3.out.cells
    have hc6 := H6d3.out.cells
    have H5b4 := keep (H5d3.out.beside (.cells #[.complex .f32 x1 y1, .complex .f32 u1 u2, .float .f32 q1, .float .f32 ma, .complex .f32 x2 y2, .complex .f32 v1 v2, .float .f32 q2, .float .f32 mb] 27))
    have H6b4 := keep (H6d3.out.beside (.cells #[.complex .f32 x1 y1, .complex .f32 u1 u2, .float .f32 q1, .float .f32 ma, .complex .f32 x2 y2, .complex .f32 v1 v2, .float .f32 q2, .float .f32 mb] 27))
    have H8b4 := keep (H8d3.out.beside (.cells #[.complex .f32 x1 y1, .complex .f32 u1 u2, .float .f32 q1, .float .f32 ma, .complex .f32 x2 y2, .complex .f32 v1 v2, .float .f32 q2, .float .f32 mb] 27))
    have H9b4 := keep (H9d3.out.beside (.cells #[.complex .f32 x1 y1, .complex .f32 u1 u2, .float .f32 q1, .float .f32 ma, .complex .f32 x2 y2, .complex .f32 v1 v2, .float .f32 q2, .float .f32 mb] 27))
    have H11b4 := keep (H11d3.out.beside (.cells #[.complex .f32 x1 y1, .complex .f32 u1 u2, .float .f32 q1, .float .f32 ma, .complex .f32 x2 y2, .complex .f32 v1 v2, .float .f32 q2, .float .f32 mb] 27))
    have H12b4 := keep (H12d3.out.beside (.cells #[.complex .f32 x1 y1, .complex .f32 u1 u2, .float .f32 q1, .float .f32 ma, .complex .f32 x2 y2, .complex .f32 v1 v2, .float .f32 q2, .float .f32 mb] 27))
    have H14b4 := keep (H14d3.out.beside (.cells #[.complex .f32 x1 y1, .complex .f32 u1 u2, .float .f32 q1, .float .f32 ma, .complex .f32 x2 y2, .complex .f32 v1 v2, .float .f32 q2, .float .f32 mb] 27))
    have H15b4 := keep (H15d3.out.beside (.cells #[.complex .f32 x1 y1, .complex .f32 u1 u2, .float .f32 q1, .float .f32 ma, .complex .f32 x2 y2, .complex .f32 v1 v2, .float .f32 q2, .float .f32 mb] 27))
    have B4b := keep (B3d.out.alloc B3d.out.size (.cells #[.complex .f32 x1 y1, .complex .f32 u1 u2, .float .f32 q1, .float .f32 ma, .complex .f32 x2 y2, .complex .f32 v1 v2, .float .f32 q2, .float .f32 mb] 27))
    go_wp2_with fail
    refine (bMom IP.out.P IQ.out.P (Has.made _ _ _) T.out.m1).mono ?_
    rintro e wk4 ⟨rfl, hb⟩
    have H5c4 := keep (H5b4.out.after hb)
    have H6c4 := keep (H6b4.out.after hb)
    have H8c4 := keep (H8b4.out.after hb)
    have H9c4 := keep (H9b4.out.after hb)
    have H11c4 := keep (H11b4.out.after hb)
    have H12c4 := keep (H12b4.out.after hb)
    have H14c4 := keep (H14b4.out.after hb)
    have H15c4 := keep (H15b4.out.after hb)
    have B4c := keep (B4b.out.trans (hb.mono B4b.out.size))
    clear hb H5d3 H5b4 H6d3 H6b4 H8d3 H8b4 H9d3 H9b4 H11d3 H11b4 H12d3 H12b4 H14d3 H14b4 H15d3 H15b4 B3d B4b
    clear hc5 hc6
    have hc8 := H8c4.out.cells
    have hc9 := H9c4.out.cells
    have H5b5 := keep (H5c4.out.beside (.cells #[.complex .f32 x1 y1, .complex .f32 o1 o2, .float .f32 q1, .float .f32 ma, .complex .f32 x2 y2, .complex .f32 t1 t2, .float .f32 q2, .float .f32 mb] 27))
    have H6b5 := keep (H6c4.out.beside (.cells #[.complex .f32 x1 y1, .complex .f32 o1 o2, .float .f32 q1, .float .f32 ma, .complex .f32 x2 y2, .complex .f32 t1 t2, .float .f32 q2, .float .f32 mb] 27))
    have H8b5 := keep (H8c4.out.beside (.cells #[.complex .f32 x1 y1, .complex .f32 o1 o2, .float .f32 q1, .float .f32 ma, .complex .f32 x2 y2, .complex .f32 t1 t2, .float .f32 q2, .float .f32 mb] 27))
    have H9b5 := keep (H9c4.out.beside (.cells #[.complex .f32 x1 y1, .complex .f32 o1 o2, .float .f32 q1, .float .f32 ma, .complex .f32 x2 y2, .complex .f32 t1 t2, .float .f32 q2, .float .f32 mb] 27))
    have H11b5 := keep (H11c4.out.beside (.cells #[.complex .f32 x1 y1, .complex .f32 o1 o2, .float .f32 q1, .float .f32 ma, .complex .f32 x2 y2, .complex .f32 t1 t2, .float .f32 q2, .float .f32 mb] 27))
    have H12b5 := keep (H12c4.out.beside (.cells #[.complex .f32 x1 y1, .complex .f32 o1 o2, .float .f32 q1, .float .f32 ma, .complex .f32 x2 y2, .complex .f32 t1 t2, .float .f32 q2, .float .f32 mb] 27))
    have H14b5 := keep (H14c4.out.beside (.cells #[.complex .f32 x1 y1, .complex .f32 o1 o2, .float .f32 q1, .float .f32 ma, .complex .f32 x2 y2, .complex .f32 t1 t2, .float .f32 q2, .float .f32 mb] 27))
    have H15b5 := keep (H15c4.out.beside (.cells #[.complex .f32 x1 y1, .complex .f32 o1 o2, .float .f32 q1, .float .f32 ma, .complex .f32 x2 y2, .complex .f32 t1 t2, .float .f32 q2, .float .f32 mb] 27))
    have B5b := keep (B4c.out.alloc B4c.out.size (.cells #[.complex .f32 x1 y1, .complex .f32 o1 o2, .float .f32 q1, .float .f32 ma, .complex .f32 x2 y2, .complex .f32 t1 t2, .float .f32 q2, .float .f32 mb] 27))
    go_wp2_with fail
    refine (bMom (PNm.mk IP.out.P.p IP.out.P.hx IP.out.P.hy T.out.no.1 T.out.no.2.1 IP.out.P.hq IP.out.P.hm) (PNm.mk IQ.out.P.p IQ.out.P.hx IQ.out.P.hy T.out.no.2.2.1 T.out.no.2.2.2 IQ.out.P.hq IQ.out.P.hm) (Has.made _ _ _) T.out.m2).mono ?_
    rintro e wk5 ⟨rfl, hb⟩
    have H5c5 := keep (H5b5.out.after hb)
    have H6c5 := keep (H6b5.out.after hb)
    have H8c5 := keep (H8b5.out.after hb)
    have H9c5 := keep (H9b5.out.after hb)
    have H11c5 := keep (H11b5.out.after hb)
    have H12c5 := keep (H12b5.out.after hb)
    have H14c5 := keep (H14b5.out.after hb)
    have H15c5 := keep (H15b5.out.after hb)
    have B5c := keep (B5b.out.trans (hb.mono B5b.out.size))
    clear hb H5c4 H5b5 H6c4 H6b5 H8c4 H8b5 H9c4 H9b5 H11c4 H11b5 H12c4 H12b5 H14c4 H14b5 H15c4 H15b5 B4c B5b
    clear hc8 hc9
    have hc5 := H5c5.out.cells
    have hc6 := H6c5.out.cells
    have H5b6 := keep (H5c5.out.beside (.cells #[.complex .f32 x1 y1, .complex .f32 u1 u2, .float .f32 q1, .float .f32 ma, .complex .f32 x2 y2, .complex .f32 v1 v2, .float .f32 q2, .float .f32 mb] 27))
    have H6b6 := keep (H6c5.out.beside (.cells #[.complex .f32 x1 y1, .complex .f32 u1 u2, .float .f32 q1, .float .f32 ma, .complex .f32 x2 y2, .complex .f32 v1 v2, .float .f32 q2, .float .f32 mb] 27))
    have H8b6 := keep (H8c5.out.beside (.cells #[.complex .f32 x1 y1, .complex .f32 u1 u2, .float .f32 q1, .float .f32 ma, .complex .f32 x2 y2, .complex .f32 v1 v2, .float .f32 q2, .float .f32 mb] 27))
    have H9b6 := keep (H9c5.out.beside (.cells #[.complex .f32 x1 y1, .complex .f32 u1 u2, .float .f32 q1, .float .f32 ma, .complex .f32 x2 y2, .complex .f32 v1 v2, .float .f32 q2, .float .f32 mb] 27))
    have H11b6 := keep (H11c5.out.beside (.cells #[.complex .f32 x1 y1, .complex .f32 u1 u2, .float .f32 q1, .float .f32 ma, .complex .f32 x2 y2, .complex .f32 v1 v2, .float .f32 q2, .float .f32 mb] 27))
    have H12b6 := keep (H12c5.out.beside (.cells #[.complex .f32 x1 y1, .complex .f32 u1 u2, .float .f32 q1, .float .f32 ma, .complex .f32 x2 y2, .complex .f32 v1 v2, .float .f32 q2, .float .f32 mb] 27))
    have H14b6 := keep (H14c5.out.beside (.cells #[.complex .f32 x1 y1, .complex .f32 u1 u2, .float .f32 q1, .float .f32 ma, .complex .f32 x2 y2, .complex .f32 v1 v2, .float .f32 q2, .float .f32 mb] 27))
    have H15b6 := keep (H15c5.out.beside (.cells #[.complex .f32 x1 y1, .complex .f32 u1 u2, .float .f32 q1, .float .f32 ma, .complex .f32 x2 y2, .complex .f32 v1 v2, .float .f32 q2, .float .f32 mb] 27))
    have B6b := keep (B5c.out.alloc B5c.out.size (.cells #[.complex .f32 x1 y1, .complex .f32 u1 u2, .float .f32 q1, .float .f32 ma, .complex .f32 x2 y2, .complex .f32 v1 v2, .float .f32 q2, .float .f32 mb] 27))
    go_wp2_with fail
    refine (bEn IP.out.P IQ.out.P (Has.made _ _ _) T.out.w1).mono ?_
    rintro e wk6 ⟨rfl, hb⟩
    have H5c6 := keep (H5b6.out.after hb)
    have H6c6 := keep (H6b6.out.after hb)
    have H8c6 := keep (H8b6.out.after hb)
    have H9c6 := keep (H9b6.out.after hb)
    have H11c6 := keep (H11b6.out.after hb)
    have H12c6 := keep (H12b6.out.after hb)
    have H14c6 := keep (H14b6.out.after hb)
    have H15c6 := keep (H15b6.out.after hb)
    have B6c := keep (B6b.out.trans (hb.mono B6b.out.size))
    clear hb H5c5 H5b6 H6c5 H6b6 H8c5 H8b6 H9c5 H9b6 H11c5 H11b6 H12c5 H12b6 H14c5 H14b6 H15c5 H15b6 B5c B6b
    clear hc5 hc6
    have hc8 := H8c6.out.cells
    have hc9 := H9c6.out.cells
    have H5b7 := keep (H5c6.out.beside (.cells #[.complex .f32 x1 y1, .complex .f32 o1 o2, .float .f32 q1, .float .f32 ma, .complex .f32 x2 y2, .complex .f32 t1 t2, .float .f32 q2, .float .f32 mb] 27))
    have H6b7 := keep (H6c6.out.beside (.cells #[.complex .f32 x1 y1, .complex .f32 o1 o2, .float .f32 q1, .float .f32 ma, .complex .f32 x2 y2, .complex .f32 t1 t2, .float .f32 q2, .float .f32 mb] 27))
    have H8b7 := keep (H8c6.out.beside (.cells #[.complex .f32 x1 y1, .complex .f32 o1 o2, .float .f32 q1, .float .f32 ma, .complex .f32 x2 y2, .complex .f32 t1 t2, .float .f32 q2, .float .f32 mb] 27))
    have H9b7 := keep (H9c6.out.beside (.cells #[.complex .f32 x1 y1, .complex .f32 o1 o2, .float .f32 q1, .float .f32 ma, .complex .f32 x2 y2, .complex .f32 t1 t2, .float .f32 q2, .float .f32 mb] 27))
    have H11b7 := keep (H11c6.out.beside (.cells #[.complex .f32 x1 y1, .complex .f32 o1 o2, .float .f32 q1, .float .f32 ma, .complex .f32 x2 y2, .complex .f32 t1 t2, .float .f32 q2, .float .f32 mb] 27))
    have H12b7 := keep (H12c6.out.beside (.cells #[.complex .f32 x1 y1, .complex .f32 o1 o2, .float .f32 q1, .float .f32 ma, .complex .f32 x2 y2, .complex .f32 t1 t2, .float .f32 q2, .float .f32 mb] 27))
    have H14b7 := keep (H14c6.out.beside (.cells #[.complex .f32 x1 y1, .complex .f32 o1 o2, .float .f32 q1, .float .f32 ma, .complex .f32 x2 y2, .complex .f32 t1 t2, .float .f32 q2, .float .f32 mb] 27))
    have H15b7 := keep (H15c6.out.beside (.cells #[.complex .f32 x1 y1, .complex .f32 o1 o2, .float .f32 q1, .float .f32 ma, .complex .f32 x2 y2, .complex .f32 t1 t2, .float .f32 q2, .float .f32 mb] 27))
    have B7b := keep (B6c.out.alloc B6c.out.size (.cells #[.complex .f32 x1 y1, .complex .f32 o1 o2, .float .f32 q1, .float .f32 ma, .complex .f32 x2 y2, .complex .f32 t1 t2, .float .f32 q2, .float .f32 mb] 27))
    go_wp2_with fail
    refine (bEn (PNm.mk IP.out.P.p IP.out.P.hx IP.out.P.hy T.out.no.1 T.out.no.2.1 IP.out.P.hq IP.out.P.hm) (PNm.mk IQ.out.P.p IQ.out.P.hx IQ.out.P.hy T.out.no.2.2.1 T.out.no.2.2.2 IQ.out.P.hq IQ.out.P.hm) (Has.made _ _ _) T.out.w2).mono ?_
    rintro e wk7 ⟨rfl, hb⟩
    have H5c7 := keep (H5b7.out.after hb)
    have H6c7 := keep (H6b7.out.after hb)
    have H8c7 := keep (H8b7.out.after hb)
    have H9c7 := keep (H9b7.out.after hb)
    have H11c7 := keep (H11b7.out.after hb)
    have H12c7 := keep (H12b7.out.after hb)
    have H14c7 := keep (H14b7.out.after hb)
    have H15c7 := keep (H15b7.out.after hb)
    have B7c := keep (B7b.out.trans (hb.mono B7b.out.size))
    clear hb H5c6 H5b7 H6c6 H6b7 H8c6 H8b7 H9c6 H9b7 H11c6 H11b7 H12c6 H12b7 H14c6 H14b7 H15c6 H15b7 B6c B7b
    clear hc8 hc9
    have hc5 := H5c7.out.cells
    have hc6 := H6c7.out.cells
    go_wp2_with fail
    refine (bPair IP.out.P IQ.out.P T.out.B1 T.out.npx T.out.npy _).mono ?_
    rintro e wk8 ⟨rfl, hb⟩
    have H5c8 := keep (H5c7.out.after hb)
    have H6c8 := keep (H6c7.out.after hb)
    have H8c8 := keep (H8c7.out.after hb)
    have H9c8 := keep (H9c7.out.after hb)
    have H11c8 := keep (H11c7.out.after hb)
    have H12c8 := keep (H12c7.out.after hb)
    have H14c8 := keep (H14c7.out.after hb)
    have H15c8 := keep (H15c7.out.after hb)
    have B8c := keep (B7c.out.trans (hb.mono B7c.out.size))
    clear hb H5c7 H6c7 H8c7 H9c7 H11c7 H12c7 H14c7 H15c7 B7c
    clear hc5 hc6
    have hc11 := H11c8.out.cells
    have hc12 := H12c8.out.cells
    go_wp2_with fail
    refine (bPair (PNm.mk IP.out.P.p IP.out.P.hx IP.out.P.hy T.out.ne.1 T.out.ne.2.1 IP.out.P.hq IP.out.P.hm) (PNm.mk IQ.out.P.p IQ.out.P.hx IQ.out.P.hy T.out.ne.2.2.1 T.out.ne.2.2.2 IQ.out.P.hq IQ.out.P.hm) T.out.B2 T.out.nqx T.out.nqy _).mono ?_
    rintro e wk9 ⟨rfl, hb⟩
    have H5c9 := keep (H5c8.out.after hb)
    have H6c9 := keep (H6c8.out.after hb)
    have H8c9 := keep (H8c8.out.after hb)
    have H9c9 := keep (H9c8.out.after hb)
    have H11c9 := keep (H11c8.out.after hb)
    have H12c9 := keep (H12c8.out.after hb)
    have H14c9 := keep (H14c8.out.after hb)
    have H15c9 := keep (H15c8.out.after hb)
    have B9c := keep (B8c.out.trans (hb.mono B8c.out.size))
    clear hb H5c8 H6c8 H8c8 H9c8 H11c8 H12c8 H14c8 H15c8 B8c
    clear hc11 hc12
    have kc5_0 := cell_regrown (H5c9.out.cells 0)
    have kc5_1 := cell_regrown (H5c9.out.cells 1)
    have kc5_3 := cell_regrown (H5c9.out.cells 3)
    have kc6_1 := cell_regrown (H6c9.out.cells 1)
    have kc6_2 := cell_regrown (H6c9.out.cells 2)
    have kc8_0 := cell_regrown (H8c9.out.cells 0)
    have kc8_1 := cell_regrown (H8c9.out.cells 1)
    have kc8_3 := cell_regrown (H8c9.out.cells 3)
    have kc9_1 := cell_regrown (H9c9.out.cells 1)
    have kc9_2 := cell_regrown (H9c9.out.cells 2)
    have kc14_1 := cell_regrown (H14c9.out.cells 1)
    have kc15_1 := cell_regrown (H15c9.out.cells 1)
    have CA1 := keep (fun w d os => Calls.regrown_of (toB (bApart T.out.a1 (grow (redrawn w d) os))))
    have CG1 := keep (fun w d os => Calls.regrown_of (toB (bGap T.out.g6 (grow (redrawn w d) os))))
    have CAa := keep (fun w d os => Calls.regrown_of (toB (bApart T.out.aa (grow (redrawn w d) os))))
    have CAb := keep (fun w d os => Calls.regrown_of (toB (bApart T.out.ab (grow (redrawn w d) os))))
    have CG2 := keep (fun w d os => Calls.regrown_of (toB (bGap T.out.g7 (grow (redrawn w d) os))))
    have CA3 := keep (fun w d os => Calls.regrown_of (toB (bApart T.out.a3 (grow (redrawn w d) os))))
    have CA4 := keep (fun w d os => Calls.regrown_of (toB (bApart T.out.a4 (grow (redrawn w d) os))))
    have CA5 := keep (fun w d os => Calls.regrown_of (toB (bApart T.out.a5 (grow (redrawn w d) os))))
    have CS := keep (fun w d os => Calls.regrown_of (toB (bSameC IP.out.P.hx IP.out.P.hy LX.out LY.out (grow (redrawn w d) os))))
    have k1 := zconv32 _ _ T.out.x6
    have k2 := zconv32 _ _ T.out.y6
    have r1 := T.out.r1
    have r2 := T.out.r2
    have r3 := T.out.r3
    have r4 := T.out.r4
    have r5 := T.out.r5
    have r6 := T.out.r6
    have z1 := num_self IP.out.P.hm
    have z2 := num_self IQ.out.P.hq
    clear PH PB NT HT
    go_wp2_with fail
    refine wp_region_quiet_below (by as_aux_lemma => kernel_rfl) (by as_aux_lemma => kernel_rfl) ?_
    dsimp only [List.append]
    repeat (any_goals (go_big_quiet_step (first | (with_reducible exact CA1.out _ _ _) | (with_reducible exact CG1.out _ _ _) | (with_reducible exact CAa.out _ _ _) | (with_reducible exact CAb.out _ _ _) | (with_reducible exact CG2.out _ _ _) | (with_reducible exact CA3.out _ _ _) | (with_reducible exact CA4.out _ _ _) | (with_reducible exact CA5.out _ _ _) | (with_reducible exact CS.out _ _ _))))
    refine wpQuiet_nil ?_
    intro wq hwq
    obtain ⟨⟨dq, osq⟩, rfl⟩ := hwq
    have hbq := below_regrown wk9 dq osq
    generalize grow (redrawn wk9 dq) osq = wq at *
    have BZ := keep (B9c.out.trans (hbq.mono B9c.out.size))
    clear hbq
    go_wp2_with fail
    go_ret
    exact ⟨rfl, BZ.out⟩
end Go.Proofs.Ytegojadabfeokaa
