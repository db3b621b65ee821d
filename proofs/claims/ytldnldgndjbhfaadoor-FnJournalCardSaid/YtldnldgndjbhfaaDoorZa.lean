/- Words of 32 bits, and contracts of drawn ones: numbers of the reference's source, whatever they are. No condition but that the bytes can be read. -/
import Derived.Test.YtldnldgndjbhfaaDoorZ0
import Derived.Test.YtldnldgndjbhfaaDoorUb
namespace Go.Proofs.YtldnldgndjbhfaaDoor
open Go.RowKit Go.Sort Ieee
set_option linter.unusedSimpArgs false

theorem write_lt (f : Format) (d : Datum) : f.write d < 2 * f.signWeight := by
  have hs : f.infRung + f.binade = f.signWeight := by
    unfold Format.infRung Format.signWeight Format.binade
    rw [Nat.pow_add, Nat.sub_mul, Nat.one_mul]
    have := Nat.mul_le_mul_right (2 ^ f.fractionBits) (Nat.one_le_two_pow (n := f.exponentBits))
    omega
  have hb := binade_pos f
  have hw : ∀ s r, r < f.signWeight → f.word s r < 2 * f.signWeight := by
    intro s r hr
    unfold Format.word
    split <;> omega
  cases d with
  | number s m i =>
    show f.nearest s m i < _
    unfold Format.nearest
    split
    · exact hw _ _ (by omega)
    · refine hw _ _ ?_
      have := Nat.min_le_right ((max (i + m.log2 - f.fractionBits) f.leastPlace - f.leastPlace).toNat * f.binade + Toward.even.cut s (m <<< (i - max (i + m.log2 - f.fractionBits) f.leastPlace).toNat) (max (i + m.log2 - f.fractionBits) f.leastPlace - i).toNat) f.infRung
      omega
  | infinity s => exact hw _ _ (by omega)
  | nan s t =>
    refine hw _ _ ?_
    have := Nat.mod_lt t hb
    omega
theorem width32 : 2 * single.signWeight = 4294967296 := by decide
theorem floatBits_lt {op : BinOp} (ho : arithOp op = true) {x y r : Nat} (h : floatBits op .f32 x y = some r) : r < 4294967296 := by
  have hw : ∀ o : Option Datum, o.map single.write = some r → r < 4294967296 := by
    intro o ho
    cases o with
    | none => cases ho
    | some d =>
      injection ho with ho
      rw [← ho, ← width32]
      exact write_lt single d
  cases op <;> simp [arithOp] at ho <;> exact hw _ h
theorem cut32_lt (t : Nat) : (t % 2) * 2 ^ 31 + 0x7f800000 + 1 + (t / 2) % (2 ^ 23 - 1) < 4294967296 := by
  have h1 : t % 2 < 2 := Nat.mod_lt _ (by decide)
  have h2 : (t / 2) % (2 ^ 23 - 1) < 2 ^ 23 - 1 := Nat.mod_lt _ (by decide)
  omega
theorem fop_lt {op : BinOp} (ho : arithOp op = true) (x y : Nat) : fop op .f32 x y < 4294967296 := by
  unfold fop
  cases h : floatBits op .f32 x y with
  | none => show qnan .f32 < _; decide
  | some r => exact floatBits_lt ho h

theorem run_farith_lt {P : Program} (w : World) (op : BinOp) (t : TypeId) (x y : Nat) (ho : arithOp op = true) :
    ∃ r m, (binOp op t (.float .f32 x) (.float .f32 y)).run P w = .ok (.float .f32 r) (w.drewN m) ∧ FEq .f32 r (fop op .f32 x y) ∧ r < 4294967296 := by
  cases h : floatBits op .f32 x y with
  | some r => exact ⟨r, 0, run_float_arith w op t .f32 x y r h, by simp [fop, h, FEq], floatBits_lt ho h⟩
  | none =>
    have hq : fop op .f32 x y = qnan .f32 := by simp [fop, h]
    rw [hq]
    unfold floatBits at h
    refine ⟨Question.cut (.nanBits .f32 x y) (w.tape w.drawn (.nanBits .f32 x y)), 1, ?_, .inr ⟨nan_cut32 _, qnan_nan .f32⟩, cut32_lt _⟩
    cases op <;> simp [arithOp] at ho <;> simp only at h <;> simp [binOp, Op.floatArith, h, choose, Sem.run, Question.forced, World.drewN]

theorem wpList_farith_lt {P : Program} {ops : Array Oper} {Q : Exit → Act → World → Prop} {rest : List Oper} {o : Oper} {a : Act} {w : World}
    (hg : o.guard = none) (op : BinOp) (t ty : TypeId) (x y : Operand) (hop : o.op = .binOp op t x y ty) (ho : arithOp op = true)
    (X Y : Nat) (hx : a.eval x = .float .f32 X) (hy : a.eval y = .float .f32 Y)
    (h : ∀ r m, FEq .f32 r (fop op .f32 X Y) → r < 4294967296 → wpList P ops Q rest (a.put o.dst (.float .f32 r)) (w.drewN m)) : wpList P ops Q (o :: rest) a w := by
  refine wpList_plain hg fun K hK => ?_
  obtain ⟨r, m, hrun, hr, hl⟩ := run_farith_lt (P := P) w op t X Y ho
  have hgd : eqGuard op t x y (.float .f32 X) (.float .f32 Y) = pure () := by cases op <;> rfl
  unfold Oper.wp
  simp [execOp, hop, hx, hy, hrun, hgd, Result.andThen]
  exact hK _ _ (h r m hr hl)

/-- A number up to 100000, drawn of two bytes. -/
theorem pick_big (m : Nat) (g : Nat) (a : Option Addr) (n c K : Nat) (w : World) (h : Drawn w g a n c K) (hK : K ≤ 900000) (hm2 : 201 ≤ m) (hm : m ≤ 100000) :
    Calls Tryd.prog 11 #[.pointer (some ⟨g, 0, none⟩), .int .i64 m] w fun e w' => ∃ r : Nat, r < m ∧ e = .returned (.int .i64 r) ∧ Drawn w' g a n c (K + 2) ∧ w.grownBy w' (some g) := by
  have H := keep (fun K w h hK => next_ok g a n c K w h hK)
  have H0 := keep h
  have hd1 : decide ((m : Int) ≤ 1) = false := by simp; omega
  have hd2 : decide ((200 : Int) < (m : Int)) = true := by simp; omega
  have hm0 : ¬ ((m : Int) = 0) := by omega
  clear h
  go_enter Tryd.func11, Tryd.ntmps11
  go_wp2_with fail
  refine (H.out K _ H0.out (by omega)).mono ?_
  rintro e w1 ⟨v, hv, rfl, hd, hg⟩
  have HD := keep hd
  have HG := keep hg
  clear hd hg
  have w1a : IntKind.i64.wrap ((v : Int) * 256) = (v : Int) * 256 := IntWalk.i64_in _ ⟨by omega, by omega⟩
  go_wp2_with fail
  refine (H.out (K + 1) _ HD.out (by omega)).mono ?_
  rintro e w2 ⟨u, hu, rfl, hd, hg⟩
  have HD2 := keep hd
  have HG2 := keep (zgb_trans HG.out hg)
  clear hd hg
  have w2a : IntKind.i64.wrap ((v : Int) * 256 + (u : Int)) = ((v * 256 + u : Nat) : Int) := by
    rw [IntWalk.i64_in _ ⟨by omega, by omega⟩]; omega
  have ht : Int.tmod ((v * 256 + u : Nat) : Int) (m : Int) = (((v * 256 + u) % m : Nat) : Int) := by rw [Int.tmod_eq_emod_of_nonneg (by omega)]; rfl
  have hr : (v * 256 + u) % m < m := Nat.mod_lt _ (by omega)
  have hw : IntKind.i64.wrap (((v * 256 + u) % m : Nat) : Int) = (((v * 256 + u) % m : Nat) : Int) := IntWalk.i64_in _ ⟨by omega, by omega⟩
  have HR := keep hr
  clear hr
  generalize (v * 256 + u) % m = r at *
  generalize v * 256 + u = q at *
  go_wp2_with fail
  go_ret
  exact ⟨r, HR.out, by first | rfl | simp, HD2.out, HG2.out⟩

set_option maxHeartbeats 1000000 in
theorem one_any (m : Nat) (g : Nat) (a : Option Addr) (n c K : Nat) (w : World) (h : Drawn w g a n c K) (hK : K ≤ 1000000) (hm2 : 2 ≤ m) (hm : m ≤ 200) :
    Calls Tryd.prog 25 #[.pointer (some ⟨g, 0, none⟩), .int .i64 m] w fun e w' => ∃ b : Bool, e = .returned (.bool b) ∧ Drawn w' g a n c (K + 1) ∧ w.grownBy w' (some g) := by
  have H := keep (pick_ok m g a n c K w h hK hm2 hm)
  clear h
  go_enter Tryd.func25, Tryd.ntmps25
  go_wp2_with fail
  refine H.out.mono ?_
  rintro e w' ⟨r, hr, rfl, hd, hg⟩
  have HD := keep hd
  have HG := keep hg
  clear hd hg
  go_wp2_with fail
  go_ret
  exact ⟨_, rfl, HD.out, HG.out⟩

/-- One of some numbers of 32 bits. -/
theorem among_ok (g b k cp : Nat) (a : Option Addr) (n c K : Nat) (w : World) (h : Drawn w g a n c K) (hK : K ≤ 1000000) (hk2 : 2 ≤ k) (hk : k ≤ 200) (hb : b ≠ g) (hc : ∀ i, i < k → ∃ v : Nat, v < 4294967296 ∧ w.cell? ⟨b, i, none⟩ = some (.int .i64 v)) :
    Calls Tryd.prog 59 #[.pointer (some ⟨g, 0, none⟩), .slice (some ⟨b, 0, none⟩) k cp] w fun e w' => ∃ v : Nat, v < 4294967296 ∧ e = .returned (.int .i64 v) ∧ Drawn w' g a n c (K + 1) ∧ w.grownBy w' (some g) := by
  have H := keep (pick_ok k g a n c K w h hK hk2 hk)
  clear h
  go_enter Tryd.func59, Tryd.ntmps59
  go_wp2_with fail
  refine H.out.mono ?_
  rintro e w' ⟨r, hr, rfl, hd, hg⟩
  obtain ⟨v, hv, hcell⟩ := hc r hr
  have hbl : b < w.heap.size := World.block_lt_of_cell? w _ hcell
  have hcell2 : w'.cell? ⟨b, r, none⟩ = some (.int .i64 v) := (World.cell?_of_block (a := ⟨b, r, none⟩) (hg.block b hbl (fun e => hb (by first | exact Option.some.inj e | exact (Option.some.inj e).symm)))).trans hcell
  have HD := keep hd
  have HG := keep hg
  have hr0 : (0 : Int) ≤ (r : Int) := by omega
  have hrk : (r : Int) < (k : Int) := by omega
  clear hd hg hc hcell hbl
  go_wp2_with fail
  go_ret
  exact ⟨v, hv, rfl, HD.out, HG.out⟩
end Go.Proofs.YtldnldgndjbhfaaDoor
