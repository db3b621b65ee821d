/- Contracts: the absolute value; sweeps of a colour, many sweeps, potentials by sweeps, by words. No condition but that each step runs. -/
import Derived.Test.YtmlocjcfcmifdaaXh
import Derived.Test.YtmlocjcfcmifdaaXr
import Derived.Laws.BitsAllLaws
namespace Go.Proofs.Ytmlocjcfcmifdaa
open Go.RowKit Go.Sort Ieee
set_option linter.unusedSimpArgs false
set_option linter.unusedVariables false

theorem xwidth32 : 2 * single.signWeight = 4294967296 := by decide
theorem xwrite_lt (f : Format) (d : Datum) : f.write d < 2 * f.signWeight := by
  have hs : f.infRung + f.binade = f.signWeight := by
    unfold Format.infRung Format.signWeight Format.binade
    rw [Nat.pow_add, Nat.sub_mul, Nat.one_mul]
    have := Nat.mul_le_mul_right (2 ^ f.fractionBits) (Nat.one_le_two_pow (n := f.exponentBits))
    omega
  have hb := binade_pos f
  have hw : ∀ s r, r < f.signWeight → f.word s r < 2 * f.signWeight := by
    intro s r hr
    unfold Format.word
    split <;> omega
  cases d with
  | number s m i =>
    show f.nearest s m i < _
    unfold Format.nearest
    split
    · exact hw _ _ (by omega)
    · refine hw _ _ ?_
      have := Nat.min_le_right ((max (i + m.log2 - f.fractionBits) f.leastPlace - f.leastPlace).toNat * f.binade + Toward.even.cut s (m <<< (i - max (i + m.log2 - f.fractionBits) f.leastPlace).toNat) (max (i + m.log2 - f.fractionBits) f.leastPlace - i).toNat) f.infRung
      omega
  | infinity s => exact hw _ _ (by omega)
  | nan s t =>
    refine hw _ _ ?_
    have := Nat.mod_lt t hb
    omega
theorem xwidth64 : 2 * double.signWeight = 18446744073709551616 := by decide
theorem xwiden_lt (b : Nat) : widen b < 18446744073709551616 := by
  unfold widen
  split
  · decide
  · rw [← xwidth64]; exact xwrite_lt double _
theorem xrun_frombits64 (n : Int) (w : World) : (callFunc 82 #[.int .u64 n]).run Try.prog w = .ok (.value (.float .f64 n.toNat)) w :=
  (run_callFunc_extern Try.func82 (by kernel_rfl) (by kernel_rfl) (by kernel_rfl) (e := Extern.MathFloatBits.float64frombits) (by kernel_rfl) _ w).trans rfl
theorem xrun_bits64 (n : Nat) (w : World) : (callFunc 83 #[.float .f64 n]).run Try.prog w = .ok (.value (.int .u64 n)) w :=
  (run_callFunc_extern Try.func83 (by kernel_rfl) (by kernel_rfl) (by kernel_rfl) (e := Extern.MathFloatBits.float64bits) (by kernel_rfl) _ w).trans rfl
theorem xunsign64 (b : Nat) (h : b < 18446744073709551616) : bits .andNot .u64 (b : Int) 9223372036854775808 = ((b % 9223372036854775808 : Nat) : Int) := by
  have e := u64_andNot_nat b 9223372036854775808 h (by omega)
  rw [show (18446744073709551615 - 9223372036854775808 : Nat) = 2 ^ 63 - 1 from rfl, Nat.and_two_pow_sub_one_eq_mod] at e
  exact e
set_option maxHeartbeats 1000000 in
theorem xAbs_any (b : Nat) (w : World) (hb : b < 18446744073709551616) : Calls Try.prog 55 #[.float .f64 b] w fun e w' => e = .returned (.float .f64 (b % 9223372036854775808)) ∧ w' = w := by
  have r1 := xrun_bits64 b
  have r2 := xrun_frombits64 ((b % 9223372036854775808 : Nat) : Int)
  rw [Int.toNat_natCast] at r2
  have u := xunsign64 b hb
  generalize b % 9223372036854775808 = q at *
  go_enter Try.func55, Try.ntmps55
  go_wp2_with fail
  go_ret
  exact ⟨rfl, rfl⟩
theorem xftf_widen {b : Nat} (h : Nm single b) : floatToFloatBits .f32 b .f64 = some (widen b) := by
  obtain ⟨s, m, i, h⟩ := h
  obtain ⟨r, hr, hw, hread, hsm⟩ := widen_number (b := b) h
  have he : FloatKind.f64.encode (.number s m i) = widen b := by unfold widen; rw [show FloatKind.f32.decode b = .number s m i from h]
  unfold floatToFloatBits
  simp only [show FloatKind.f32.decode b = .number s m i from h, he, hread]
  simp [Ieee.Datum.isInfinity]

theorem neighbours_n (W H : Nat) (h : Sd W H) (x y : Nat) (hx : x < W) (hy : y < H) (w : World) : Calls Try.prog 63 #[gV W H, .int .i64 x, .int .i64 y] w fun e w' => e = .returned (.agg #[.int .i64 (nL W H (x + W * y)), .int .i64 (nR W H (x + W * y)), .int .i64 (nU W H (x + W * y)), .int .i64 (nD W H (x + W * y))]) ∧ Below w.heap.size w w' := by
  have hh := h
  obtain ⟨⟨h1, h2⟩, h3, h4⟩ := hh
  have e := neighbours_ok W H h x y (by omega) (by omega) w
  have up : ix W H x ((y : Int) - 1) = x + W * pv H y := by
    rw [ix_up W H x y hx hy]
    by_cases e : y = 0
    · rw [if_pos e, e, pv_zero (by omega)]
    · rw [if_neg e, pv_pos (by omega) hy]
  have dn : ix W H x ((y : Int) + 1) = x + W * nx H y := by
    rw [ix_down W H x y hx hy]
    by_cases e : y + 1 = H
    · rw [if_pos e]
      obtain rfl : y = H - 1 := by omega
      rw [nx_last (by omega)]
    · rw [if_neg e, nx_in (by omega)]
  unfold nbV at e
  rw [ix_left W H x y hx hy, ix_right W H x y hx hy, up, dn] at e
  rw [(nb_in hx).1, (nb_in hx).2.1, (nb_in hx).2.2.1, (nb_in hx).2.2.2]
  exact e

theorem swS_at {W H c : Nat} {r v : Nat → Nat} {x y : Nat} (hx : x < W) (i : Nat) : swS W H c r (x + W * y + 1) v i = if (x + y) % 2 = c ∧ i = x + W * y then swU W H r (swS W H c r (x + W * y) v) (x + W * y) else swS W H c r (x + W * y) v i := by
  have em : (x + W * y) % W = x := by rw [Nat.add_mul_mod_self_left, Nat.mod_eq_of_lt hx]
  have ed : (x + W * y) / W = y := by rw [Nat.add_mul_div_left _ _ (by omega), Nat.div_eq_of_lt hx, Nat.zero_add]
  show (if ((x + W * y) % W + (x + W * y) / W) % 2 = c ∧ i = x + W * y then _ else _) = _
  rw [em, ed]

set_option maxHeartbeats 16000000 in
set_option maxRecDepth 20000 in
theorem sweep_ok (W H : Nat) (h : Sd W H) (c : Nat) {r v : Nat → Nat} (OK : OkS W H c r v) (g gr : Nat) (hne : gr ≠ g) (cap cr : Nat) (cur : Array Value) (w : World) (hv : Has w g 28 cur) (cv : CW cur (W * H) v) (hr : FW w gr (W * H) r) :
    Calls Try.prog 58 #[gV W H, .slice (some ⟨g, 0, none⟩) (W * H) cap, .slice (some ⟨gr, 0, none⟩) (W * H) cr, .int .i64 c] w fun e w' => e = .returned (.tuple #[]) ∧ ∃ cur' : Array Value, Has w' g 28 cur' ∧ CW cur' (W * H) (swS W H c r (W * H) v) ∧ w.grownBy w' (some g) := by
  have SL := sd_le W H h
  have IN := keep (ix_in W H)
  have IL := keep (in_lt W H)
  have NL := keep (fun k hk => nb_lt (W := W) (H := H) (k := k) hk)
  have ID := keep (fun u v a b c d w => xindex W H h u v a b c d w)
  have NB := keep (fun x y a b w => neighbours_n W H h x y a b w)
  have HO := keep OK
  have SA := keep (fun x y (hx : x < W) i => swS_at (H := H) (c := c) (r := r) (v := v) (y := y) hx i)
  have sW := h.1
  have sH := h.2
  have lg := hv.in_heap
  have lr := hr.1
  have G0 := keep (Has.made w 36 #[.int .i64 W, .int .i64 H])
  have V0 := keep (hv.beside (.cells #[.int .i64 W, .int .i64 H] 36))
  have R0 := keep (hr.beside (.cells #[.int .i64 W, .int .i64 H] 36))
  have B0 := keep (zgb_alloc (World.grownBy.refl w (some g)) (.cells #[.int .i64 W, .int .i64 H] 36))
  have hgb : g ≠ w.heap.size := by omega
  have C0 : Kept (CW cur (W * H) (swS W H c r (W * 0) v)) := keep cv
  generalize eN : W * H = n at *
  have EN := keep eN
  clear h hv hr cv OK eN
  unfold gV at *
  have cg := G0.out.cells
  go_enter Try.func58, Try.ntmps58
  go_wp2_with fail
  clear cg
  generalize w.alloc (.cells #[.int .i64 W, .int .i64 H] 36) = w0 at *
  go_loopw [16] (fun s wr => ∃ (y : Nat) (cur : Array Value), y ≤ H ∧ s = .int .i64 y ∧ Kept (Has wr g 28 cur) ∧ Kept (CW cur n (swS W H c r (W * y) v)) ∧ Kept (FW wr gr n r) ∧ Kept (Has wr w.heap.size 36 #[.int .i64 W, .int .i64 H]) ∧ Kept (w.grownBy wr (some g))) (fun s _ => H - (intOf s).toNat)
  case atStart => exact ⟨0, cur, Nat.zero_le _, rfl, V0, C0, R0, G0, B0⟩
  case round =>
    clear V0 C0 R0 G0 B0
    obtain ⟨y, cur, hy, rfl, hv, hc, hr, hg, hb⟩ := hrel
    by_cases hlt : y < H
    · have hlt' : (y : Int) < (H : Int) := by omega
      have cg := hg.out.cells
      go_wp2_with fail
      clear cg
      go_loopw [21] (fun s wx => ∃ (x : Nat) (cur : Array Value), x ≤ W ∧ s = .int .i64 x ∧ Kept (Has wx g 28 cur) ∧ Kept (CW cur n (swS W H c r (x + W * y) v)) ∧ Kept (FW wx gr n r) ∧ Kept (Has wx w.heap.size 36 #[.int .i64 W, .int .i64 H]) ∧ Kept (w.grownBy wx (some g))) (fun s _ => W - (intOf s).toNat)
      case atStart => exact ⟨0, cur, Nat.zero_le _, rfl, hv, by rw [Nat.zero_add]; exact hc, hr, hg, hb⟩
      case round =>
        clear hv hc hr hg hb
        obtain ⟨x, cur, hx, rfl, hv, hc, hr, hg, hb⟩ := hrel
        by_cases hlx : x < W
        · have hlx' : (x : Int) < (W : Int) := by omega
          obtain ⟨q, hq⟩ : ∃ q : Nat, q = (x + y) % 2 := ⟨_, rfl⟩
          have ht : Int.tmod ((x : Int) + (y : Int)) 2 = (q : Int) := by
            rw [show (x : Int) + (y : Int) = ((x + y : Nat) : Int) by omega, Int.tmod_eq_emod_of_nonneg (by omega), hq]; rfl
          have wxy : IntKind.i64.wrap ((x : Int) + (y : Int)) = (x : Int) + (y : Int) := IntWalk.i64_in _ ⟨by omega, by omega⟩
          have wq : IntKind.i64.wrap (q : Int) = (q : Int) := IntWalk.i64_in _ ⟨by omega, by omega⟩
          have sa := SA.out x y hlx
          by_cases hqc : q = c
          · have hnb : ((q : Int) != (c : Int)) = false := by rw [hqc]; simp
            have kn := IL.out x y hlx hlt
            have id := ID.out x y (by omega) (by omega) (by omega) (by omega)
            rw [IN.out x y hlx hlt] at id
            have nb := keep (NB.out x y hlx hlt)
            have nl := NL.out (x + W * y) kn
            have em : (x + W * y) % W = x := by rw [Nat.add_mul_mod_self_left, Nat.mod_eq_of_lt hlx]
            have ed : (x + W * y) / W = y := by rw [Nat.add_mul_div_left _ _ (by omega), Nat.div_eq_of_lt hlx, Nat.zero_add]
            obtain ⟨a1, a2, a3, a4, f1, f2, f3, f4, f5⟩ := HO.out (x + W * y) (by rw [EN.out]; exact kn) (by rw [em, ed, ← hq, hqc])
            have ek : x + 1 + W * y = x + W * y + 1 := by omega
            have z0 := hr.out.2 _ kn
            have hcx := hc.out
            obtain ⟨b1, b2, b3, b4⟩ := nl
            rw [← hq, hqc] at sa
            clear em ed hq NL
            generalize swU W H r (swS W H c r (x + W * y) v) (x + W * y) = u at *
            generalize nL W H (x + W * y) = i1 at *
            generalize nR W H (x + W * y) = i2 at *
            generalize nU W H (x + W * y) = i3 at *
            generalize nD W H (x + W * y) = i4 at *
            generalize swS W H c r (x + W * y) v = t at *
            have SA2 : Kept (∀ i, swS W H c r (x + 1 + W * y) v i = if i = x + W * y then u else t i) := keep (fun i => by
              rw [ek, sa i]
              by_cases e : i = x + W * y
              · rw [if_pos ⟨rfl, e⟩, if_pos e]
              · rw [if_neg (fun q => e q.2), if_neg e])
            generalize x + W * y = k at *
            have ID2 := keep id
            have FF : Kept (∃ A : Nat → Nat, A 0 = r k ∧ (∀ j, j < 4 → floatBits .add .f32 (A j) (t (if j = 0 then i1 else if j = 1 then i2 else if j = 2 then i3 else i4)) = some (A (j + 1))) ∧ floatBits .mul .f32 1048576000 (A 4) = some u) := keep ⟨fun j => if j = 0 then r k else if j = 1 then a1 else if j = 2 then a2 else if j = 3 then a3 else a4, rfl, fun j hj => by
              rcases j with _ | _ | _ | _ | j
              · exact f1
              · exact f2
              · exact f3
              · exact f4
              · omega, f5⟩
            obtain ⟨A, hA0, hA, hA4⟩ := FF.out
            have HA := keep hA
            have HA4 := keep hA4
            rw [← hA0] at z0
            have HT := keep (hcx.fw hv.out)
            have HT2 := keep hcx.1
            clear hc hcx id f1 f2 f3 f4 f5 FF hA hA4 hA0 sa ek
            have cg := hg.out.cells
            go_wp2_with fail
            refine (ID2.out _).mono ?_
            rintro e w1 ⟨rfl, hb1⟩
            have V1 := keep (hv.out.after hb1)
            have T1 := keep (HT.out.after hb1)
            have R1 := keep (hr.out.after hb1)
            have G1 := keep (hg.out.after hb1)
            have B1 := keep (zgb_below hb.out hb1 hb.out.size)
            have z1 := (hb1.cell (p := ⟨gr, k, none⟩) hr.out.1).trans z0
            have kn' : (k : Int) < (n : Int) := by omega
            clear hv HT hr hg hb hb1 cg ID2 z0 ht wxy wq hnb
            have cg := G1.out.cells
            go_wp2_with fail
            refine (nb.out _).mono ?_
            rintro e w2 ⟨rfl, hb2⟩
            have V2 := keep (V1.out.after hb2)
            have T2 := keep (T1.out.after hb2)
            have R2 := keep (R1.out.after hb2)
            have G2 := keep (G1.out.after hb2)
            have B2 := keep (zgb_below B1.out hb2 B1.out.size)
            clear V1 T1 R1 G1 B1 hb2 cg nb z1
            go_wp2_with fail
            go_loopw [42, 11] (fun s t wy => ∃ j : Nat, j ≤ 4 ∧ s = .int .i64 j ∧ t = .float .f32 (A j) ∧ wy = w2) (fun s _ _ => 4 - (intOf s).toNat)
            case atStart => exact ⟨0, by omega, rfl, rfl, rfl⟩
            case round =>
              obtain ⟨j, hj, rfl, rfl, rfl⟩ := hrel
              have d1 : (i1 : Int) < (n : Int) := by omega
              have d2 : (i2 : Int) < (n : Int) := by omega
              have d3 : (i3 : Int) < (n : Int) := by omega
              have d4 : (i4 : Int) < (n : Int) := by omega
              have z1 := T2.out.2 i1 b1
              have z2 := T2.out.2 i2 b2
              have z3 := T2.out.2 i3 b3
              have z4 := T2.out.2 i4 b4
              have hks : j = 0 ∨ j = 1 ∨ j = 2 ∨ j = 3 ∨ j = 4 := by omega
              rcases hks with rfl | rfl | rfl | rfl | rfl
              · have f := zrun (HA.out 0 (by omega))
                rw [if_pos rfl] at f
                have ixf : ∀ w, (Instr.index 90 (.agg #[.int .i64 i1, .int .i64 i2, .int .i64 i3, .int .i64 i4]) (.int .i64 0)).run Try.prog w = .ok (.int .i64 i1) w := fun w => xrun_ix _ 0 _ (by omega) rfl w
                go_wp2_with fail
                go_roundw
                case rel => exact ⟨1, by omega, rfl, rfl, by trivial⟩
                case measure => simp [intOf]
              · have f := zrun (HA.out 1 (by omega))
                rw [if_neg (by omega), if_pos rfl] at f
                have ixf : ∀ w, (Instr.index 90 (.agg #[.int .i64 i1, .int .i64 i2, .int .i64 i3, .int .i64 i4]) (.int .i64 1)).run Try.prog w = .ok (.int .i64 i2) w := fun w => xrun_ix _ 1 _ (by omega) rfl w
                go_wp2_with fail
                go_roundw
                case rel => exact ⟨2, by omega, rfl, rfl, by trivial⟩
                case measure => simp [intOf]
              · have f := zrun (HA.out 2 (by omega))
                rw [if_neg (by omega), if_neg (by omega), if_pos rfl] at f
                have ixf : ∀ w, (Instr.index 90 (.agg #[.int .i64 i1, .int .i64 i2, .int .i64 i3, .int .i64 i4]) (.int .i64 2)).run Try.prog w = .ok (.int .i64 i3) w := fun w => xrun_ix _ 2 _ (by omega) rfl w
                go_wp2_with fail
                go_roundw
                case rel => exact ⟨3, by omega, rfl, rfl, by trivial⟩
                case measure => simp [intOf]
              · have f := zrun (HA.out 3 (by omega))
                rw [if_neg (by omega), if_neg (by omega), if_neg (by omega)] at f
                have ixf : ∀ w, (Instr.index 90 (.agg #[.int .i64 i1, .int .i64 i2, .int .i64 i3, .int .i64 i4]) (.int .i64 3)).run Try.prog w = .ok (.int .i64 i4) w := fun w => xrun_ix _ 3 _ (by omega) rfl w
                go_wp2_with fail
                go_roundw
                case rel => exact ⟨4, by omega, rfl, rfl, by trivial⟩
                case measure => simp [intOf]
              · have u1 := V2.out.free k
                have l1 := V2.out.in_heap
                have c1 := T2.out.2 k kn
                have f := zrun HA4.out
                clear z1 z2 z3 z4
                go_wp2_with fail
                go_roundw
                case rel => exact ⟨x + 1, _, by omega, by go_num, keep (V2.out.written k _), keep ((CW.put (f := t) (g := swS W H c r (x + 1 + W * y) v) ⟨HT2.out, fun i hi => (V2.out.cells i).symm.trans (T2.out.2 i hi)⟩ k u kn (fun i hi => SA2.out i))), keep (R2.out.set (p := ⟨g, k, none⟩) (fun e => hne e.symm) _), keep (G2.out.elsewhere (p := ⟨g, k, none⟩) (fun e => hgb e.symm) _), keep (zgb_trans B2.out (xgb_row _ g k _))⟩
                case measure => simp [intOf]; omega
          · have hnb : ((q : Int) != (c : Int)) = true := by simp; omega
            have SA2 : Kept (∀ i, swS W H c r (x + 1 + W * y) v i = swS W H c r (x + W * y) v i) := keep (fun i => by
              rw [show x + 1 + W * y = x + W * y + 1 by omega, sa i, if_neg (fun e => hqc (by rw [hq]; exact e.1))])
            clear hq sa
            go_wp2_with fail
            go_roundw
            case rel => exact ⟨x + 1, cur, by omega, by go_num, hv, keep (hc.out.congr (fun i hi => (SA2.out i).symm)), hr, hg, hb⟩
            case measure => simp [intOf]; omega
        · obtain rfl : x = W := by omega
          go_wp2_with fail
          go_roundw
          case rel => exact ⟨y + 1, cur, by omega, by go_num, hv, keep (by rw [Nat.mul_succ, Nat.add_comm]; exact hc.out), hr, hg, hb⟩
          case measure => simp [intOf]; omega
    · obtain rfl : y = H := by omega
      go_wp2_with fail
      go_end0
      exact ⟨rfl, cur, hv.out, by have := hc.out; rw [EN.out] at this; exact this, hb.out⟩
end Go.Proofs.Ytmlocjcfcmifdaa
