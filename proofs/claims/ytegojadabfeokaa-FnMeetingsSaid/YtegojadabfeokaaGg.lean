/- Contracts: a grid and a place drawn from bytes. -/
import Derived.Test.YtegojadabfeokaaGb
namespace Go.Proofs.Ytegojadabfeokaa
open Go.RowKit Go.Sort Ieee

/-- Bytes that have been handed in, and lie below. -/
theorem l00From_ok (a : Option Addr) (n c : Nat) (w : World) (hb : Bytes w a n) :
    Calls Try.prog 31 #[.slice a n c] w fun e w' => e = .returned (.pointer (some ⟨w.heap.size, 0, none⟩)) ∧ Drawn w' w.heap.size a n c 0 ∧ Below w.heap.size w w' := by
  have P := keep (Has.made w 85 #[.slice a n c, .int .i64 0, .int .u64 0])
  have HB := keep hb
  clear hb
  go_enter Try.func31, Try.ntmps31
  go_wp2_with fail
  go_ret
  have hbel := (Below.refl w.heap.size w).alloc (Nat.le_refl _) (.cells #[.slice a n c, .int .i64 0, .int .u64 0] 85)
  refine ⟨rfl, ⟨⟨0, 0, Nat.le_refl _, P.out, by omega, by omega⟩, HB.out.later hbel (fun b o e hn => ?_), fun b o e hn => ?_⟩, hbel⟩
  all_goals
    obtain ⟨b', o', e', hl, _⟩ := HB.out 0 hn
    rw [e] at e'
    injection e' with e'
    injection e' with e'
    omega

theorem Bytes.alloc {w : World} {a : Option Addr} {n : Nat} (h : Bytes w a n) (o : Obj) : Bytes (w.alloc o) a n := h.later ((Below.refl w.heap.size w).alloc (Nat.le_refl _) o) (fun b o e hn => by
  obtain ⟨b', o', e', hl, _⟩ := h 0 hn
  rw [e] at e'
  injection e' with e'
  injection e' with e'
  omega)

end Go.Proofs.Ytegojadabfeokaa
