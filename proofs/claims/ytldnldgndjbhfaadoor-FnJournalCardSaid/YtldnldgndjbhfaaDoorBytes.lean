/- Contracts: numbers out of bytes, and bits. -/
import Derived.Test.YtldnldgndjbhfaaDoorLeaf
import Derived.Test.YtldnldgndjbhfaaDoorShelf
import Derived.Lib.ConvBytes
import Derived.Lib.Hide
namespace Go.Proofs.YtldnldgndjbhfaaDoor
open Go.RowKit

@[go_sem] theorem run_frombits (n : Int) (w : World) : (callFunc 66 #[.int .u32 n]).run Tryd.prog w = .ok (.value (.float .f32 n.toNat)) w :=
  (run_callFunc_extern Tryd.func66 (by kernel_rfl) (by kernel_rfl) (by kernel_rfl) (e := Extern.MathFloatBits.float32frombits) (by kernel_rfl) _ w).trans rfl
@[go_sem] theorem run_bits (n : Nat) (w : World) : (callFunc 55 #[.float .f32 n]).run Tryd.prog w = .ok (.value (.int .u32 n)) w :=
  (run_callFunc_extern Tryd.func55 (by kernel_rfl) (by kernel_rfl) (by kernel_rfl) (e := Extern.MathFloatBits.float32bits) (by kernel_rfl) _ w).trans rfl

/-- '[]byte(s)': a new block that holds the bytes. -/
theorem wpList_bytes {P : Program} {ops : Array Oper} {Q : Exit → Act → World → Prop} {rest : List Oper} {o : Oper} {a : Act} {w : World}
    (hg : o.guard = none) (src dst el : TypeId) (x : Operand) (hop : o.op = .convert src dst x)
    (s : ByteArray) (hx : a.eval x = .string s) {u : TypeDesc} (hs : P.underlying src = some u) (hd : P.underlying dst = some (.slice el)) (he : P.underlying el = some (.int .u8))
    (h : ∀ c w', Below w.heap.size w w' → w'.heap.size = w.heap.size + 1 → (∀ j, j < s.size → w'.cell? ⟨w.heap.size, j, none⟩ = some (.int .u8 (s.data.toList.getD j 0).toNat)) →
      wpList P ops Q rest (a.put o.dst (.slice (some ⟨w.heap.size, 0, none⟩) s.size c)) w') : wpList P ops Q (o :: rest) a w := by
  refine wpList_plain hg fun K hK => ?_
  have hrun := Lib.run_convert_string_bytes (P := P) w src dst el s hs hd he
  unfold Oper.wp
  simp [execOp, hop, hx, hrun, Result.andThen]
  refine hK _ _ (h _ _ ⟨rfl, rfl, rfl, by rw [Lib.bytesWorld_size]; omega, fun k hk => Lib.bytesWorld_at_old w el s k hk⟩ (Lib.bytesWorld_size w el s) (fun j hj => Lib.bytesWorld_cell w el s j hj))

/-- 2 ^ 32, behind a name. -/
def two32 : Int := 4294967296

theorem u32_in (n : Int) (h0 : 0 ≤ n) (h1 : n < two32) : IntKind.u32.wrap n = n := by
  unfold two32 at h1
  exact IntWalk.u32_in n ⟨h0, by omega⟩

set_option maxHeartbeats 400000 in
theorem l01From_any (n : Int) (w : World) (h0 : 0 ≤ n) (h1 : n < two32) : Calls Tryd.prog 58 #[.int .i64 n] w fun e w' => e = .returned (.float .f32 n.toNat) ∧ w' = w := by
  have hu := u32_in n h0 h1
  go_enter Tryd.func58, Tryd.ntmps58
  go_wp2
  go_ret
  exact ⟨rfl, rfl⟩

end Go.Proofs.YtldnldgndjbhfaaDoor
