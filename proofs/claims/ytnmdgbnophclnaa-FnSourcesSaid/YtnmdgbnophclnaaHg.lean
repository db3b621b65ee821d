/- Contract: a list thrown back. -/
import Derived.Test.YtnmdgbnophclnaaHf
namespace Go.Proofs.Ytnmdgbnophclnaa
open Go.RowKit Go.Sort Ieee
set_option linter.unusedSimpArgs false

theorem own_base {w : World} {B B' e size n : Nat} {v : Value} {xs : List Value} (h : w.ownsRow B e size v n xs) (hB : B' ≤ B) : w.ownsRow B' e size v n xs := by
  refine ⟨h.1, ?_⟩
  rcases h.2 with h1 | ⟨g, cap, cur, h1, h2, h3⟩
  · exact .inl h1
  · exact .inr ⟨g, cap, cur, h1, Nat.le_trans hB h2, h3⟩
def cntOut (L H : Int) (gs : List GP) : Nat := (gs.filter (isOut L H)).length
theorem cntOut_take (L H : Int) (gs : List GP) (i : Nat) (h : i < gs.length) : cntOut L H (gs.take (i + 1)) = cntOut L H (gs.take i) + (if isOut L H gs[i] then 1 else 0) := by
  unfold cntOut
  rw [filter_take (isOut L H) gs i h, List.length_append]
  cases isOut L H gs[i] <;> rfl

theorem reflAll_ok {L H : Int} (hw : Walls L H) (gs : List GP) (hok : ∀ p ∈ gs, p.ok) : (gs.map (reflD L H)).all PD.ok = true := by
  rw [List.all_map]
  exact List.all_eq_true.2 fun p hp => reflD_ok hw (hok p hp)

end Go.Proofs.Ytnmdgbnophclnaa
