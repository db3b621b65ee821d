/- Contracts: numbers out of bytes, and bits. -/
import Derived.Test.YtafaabhnkjjkcaaLeaf
import Derived.Test.YtafaabhnkjjkcaaShelf
import Derived.Lib.ConvBytes
import Derived.Lib.Hide
namespace Go.Proofs.Ytafaabhnkjjkcaa
open Go.RowKit

@[go_sem] theorem run_frombits (n : Int) (w : World) : (callFunc 94 #[.int .u32 n]).run Try.prog w = .ok (.value (.float .f32 n.toNat)) w :=
  (run_callFunc_extern Try.func94 (by kernel_rfl) (by kernel_rfl) (by kernel_rfl) (e := Extern.MathFloatBits.float32frombits) (by kernel_rfl) _ w).trans rfl
@[go_sem] theorem run_bits (n : Nat) (w : World) : (callFunc 106 #[.float .f32 n]).run Try.prog w = .ok (.value (.int .u32 n)) w :=
  (run_callFunc_extern Try.func106 (by kernel_rfl) (by kernel_rfl) (by kernel_rfl) (e := Extern.MathFloatBits.float32bits) (by kernel_rfl) _ w).trans rfl

/-- '[]byte(s)': a new block that holds the bytes. -/
theorem wpList_bytes {P : Program} {ops : Array Oper} {Q : Exit → Act → World → Prop} {rest : List Oper} {o : Oper} {a : Act} {w : World}
    (hg : o.guard = none) (src dst el : TypeId) (x : Operand) (hop : o.op = .convert src dst x)
    (s : ByteArray) (hx : a.eval x = .string s) {u : TypeDesc} (hs : P.underlying src = some u) (hd : P.underlying dst = some (.slice el)) (he : P.underlying el = some (.int .u8))
    (h : ∀ c w', Below w.heap.size w w' → w'.heap.size = w.heap.size + 1 → (∀ j, j < s.size → w'.cell? ⟨w.heap.size, j, none⟩ = some (.int .u8 (s.data.toList.getD j 0).toNat)) →
      wpList P ops Q rest (a.put o.dst (.slice (some ⟨w.heap.size, 0, none⟩) s.size c)) w') : wpList P ops Q (o :: rest) a w := by
  refine wpList_plain hg fun K hK => ?_
  have hrun := Lib.run_convert_string_bytes (P := P) w src dst el s hs hd he
  unfold Oper.wp
  simp [execOp, hop, hx, hrun, Result.andThen]
  refine hK _ _ (h _ _ ⟨rfl, rfl, rfl, by rw [Lib.bytesWorld_size]; omega, fun k hk => Lib.bytesWorld_at_old w el s k hk⟩ (Lib.bytesWorld_size w el s) (fun j hj => Lib.bytesWorld_cell w el s j hj))

/-- 2 ^ 32, behind a name. -/
def two32 : Int := 4294967296

theorem u32_in (n : Int) (h0 : 0 ≤ n) (h1 : n < two32) : IntKind.u32.wrap n = n := by
  unfold two32 at h1
  exact IntWalk.u32_in n ⟨h0, by omega⟩

set_option maxHeartbeats 400000 in
theorem l01From_any (n : Int) (w : World) (h0 : 0 ≤ n) (h1 : n < two32) : Calls Try.prog 91 #[.int .i64 n] w fun e w' => e = .returned (.float .f32 n.toNat) ∧ w' = w := by
  have hu := u32_in n h0 h1
  go_enter Try.func91, Try.ntmps91
  go_wp2
  go_ret
  exact ⟨rfl, rfl⟩

set_option maxHeartbeats 400000 in
theorem FromBits_any (n : Int) (w : World) (h0 : 0 ≤ n) (h1 : n < two32) : Calls Try.prog 69 #[.int .i64 n] w fun e w' => e = .returned (.tuple #[.float .f32 n.toNat, .bool true]) ∧ w' = w := by
  have hu := u32_in n h0 h1
  have hb : (decide ((0 : Int) ≤ n) && decide (n ≤ 4294967295)) = true := by
    unfold two32 at h1; simp; omega
  have Hb := keep hb
  clear hb
  go_enter Try.func69, Try.ntmps69
  go_wp2_with (go_at_call 64; refine (within_any _ _ _ _).mono ?_; rw [Hb.out]; rintro e w' ⟨rfl, rfl⟩)
  go_ret2
  exact ⟨rfl, rfl⟩

set_option maxHeartbeats 400000 in
set_option maxRecDepth 20000 in
theorem readNumber_any (b0 b1 b2 b3 : UInt8) (w : World) : Calls Try.prog 37 #[.string ⟨#[b0, b1, b2, b3]⟩] w fun e w' => e = .returned (.float .f32 (Lib.leNat [b0, b1, b2, b3])) ∧ Below w.heap.size w w' := by
  go_enter Try.func37, Try.ntmps37
  go_wp2_with (refine wpList_bytes (o := ⟨some 8, .convert 9 50 (.tmp 7), _, _, _, _⟩) rfl _ _ 5 _ rfl ⟨#[b0, b1, b2, b3]⟩ rfl Try.underlying9 Try.underlying50 Try.underlying5 ?_)
  intro c w1 hb hz hc
  have c0 : w1.cell? ⟨w.heap.size, 0, none⟩ = some (.int .u8 b0.toNat) := by simpa using hc 0 (by decide)
  have c1 : w1.cell? ⟨w.heap.size, 0 + 1, none⟩ = some (.int .u8 b1.toNat) := by simpa using hc 1 (by decide)
  have c2 : w1.cell? ⟨w.heap.size, 0 + 2, none⟩ = some (.int .u8 b2.toNat) := by simpa using hc 2 (by decide)
  have c3 : w1.cell? ⟨w.heap.size, 0 + 3, none⟩ = some (.int .u8 b3.toNat) := by simpa using hc 3 (by decide)
  have hcall := Try.binary_LE_Uint32 _ 0 4 c b0 b1 b2 b3 w1 (Nat.le_refl _) c0 c1 c2 c3
  clear hc c0 c1 c2 c3
  have hlt : (0 : Int) ≤ (Lib.leNat [b0, b1, b2, b3] : Nat) ∧ ((Lib.leNat [b0, b1, b2, b3] : Nat) : Int) < two32 := by
    have h0 := b0.toNat_lt; have h1 := b1.toNat_lt; have h2 := b2.toNat_lt; have h3 := b3.toNat_lt
    unfold two32
    simp only [Lib.leNat]
    push_cast
    omega
  generalize hn : Lib.leNat [b0, b1, b2, b3] = n at *
  have Hn := keep hn
  clear hn
  have Hc := keep hcall
  clear hcall
  have Hz := keep hz
  clear hz
  have hw : wrap64 (n : Int) = n := IntWalk.wrap64_in n (by have h := hlt.2; unfold two32 at h; omega)
  go_wp2_with (first | (go_at_call 70; refine Hc.out.mono ?_; rintro e w' ⟨rfl, hb2⟩) | (go_at_call 69; refine (FromBits_any _ _ hlt.1 hlt.2).mono ?_; rintro e w' ⟨rfl, rfl⟩))
  go_ret
  exact ⟨by simp [Hn.out], hb.trans (hb2.mono (by rw [Hz.out]; omega))⟩
end Go.Proofs.Ytafaabhnkjjkcaa
