/- Contract: the specification's reading of pairs of words. -/
import Derived.Test.YtldnldgndjbhfaaDoorUf
namespace Go.Proofs.YtldnldgndjbhfaaDoor
open Go.RowKit Go.Sort
set_option linter.unusedSimpArgs false

/-- What f says of every one, when it says something of each. -/
def allOf {α β : Type} (f : α → Option β) : List α → Option (List β)
  | [] => some []
  | a :: r => match f a with
    | some b => match allOf f r with
      | some c => some (b :: c)
      | none => none
    | none => none
theorem allOf_some {α β : Type} {f : α → Option β} {a : α} {b : β} {r : List α} (h : f a = some b) : allOf f (a :: r) = (allOf f r).map (b :: ·) := by
  conv => lhs; unfold allOf
  rw [h]
  cases allOf f r <;> rfl
theorem allOf_none {α β : Type} {f : α → Option β} {a : α} {r : List α} (h : f a = none) : allOf f (a :: r) = none := by
  unfold allOf
  rw [h]
/-- A pair of words of a text of sixteen digits. -/
def goodc (l : List UInt8) : Option (Nat × Nat) := if l.length = 16 then (match goodw (l.take 8), goodw (l.drop 8) with | some a, some b => some (a, b) | _, _ => none) else none
/-- What a list's text says. -/
def goodL {β : Type} (f : List UInt8 → Option β) (l : List UInt8) : Option (List β) := if l = [110, 111, 110, 101] then some [] else if 256 < (parts 44 [] l).length then none else allOf f (parts 44 [] l)
def cv (p : Nat × Nat) : Value := .complex .f32 p.1 p.2
theorem RBs.some {l : List UInt8} {v : Nat} {e : Ending} (h : RBs l e) (g : goodw l = some v) : e = .returned (.tuple #[.float .f32 v, .bool true]) := by
  obtain ⟨x, b, _, hb, hv, he⟩ := h
  rw [he, hb, hv v g, g]; rfl
theorem RBs.none {l : List UInt8} {e : Ending} (h : RBs l e) (g : goodw l = none) : ∃ x : Nat, e = .returned (.tuple #[.float .f32 x, .bool false]) := by
  obtain ⟨x, b, _, hb, _, he⟩ := h
  exact ⟨x, by rw [he, hb, g]; rfl⟩
theorem infoC64 : (Tryd.prog.info? 58).map (fun i => (i.zero, i.size, i.bytes)) = some (some (.complex .f32 0 0), 1, 8) := by kernel_rfl

theorem own_base {w : World} {B B' e size n : Nat} {v : Value} {xs : List Value} (h : w.ownsRow B e size v n xs) (hB : B' ≤ B) : w.ownsRow B' e size v n xs := by
  refine ⟨h.1, ?_⟩
  rcases h.2 with h1 | ⟨g, cap, cur, h1, h2, h3⟩
  · exact .inl h1
  · exact .inr ⟨g, cap, cur, h1, Nat.le_trans hB h2, h3⟩
/-- Rows of two types lie apart. -/
theorem kinds_ne {w : World} {B B' e e' size size' n n' : Nat} {v v' : Value} {xs ys : List Value} (h : w.ownsRow B e size v n xs) (h' : w.ownsRow B' e' size' v' n' ys) (he : e ≠ e') : v.ownBlock = none ∨ v.ownBlock ≠ v'.ownBlock := by
  rcases h.2 with ⟨rfl, _⟩ | ⟨g, cap, cur, rfl, _, h1, _⟩
  · left; rfl
  · right
    rcases h'.2 with ⟨rfl, _⟩ | ⟨g', cap', cur', rfl, _, h2, _⟩
    · intro q; cases q
    · intro q
      have q2 : g = g' := by simpa [Value.ownBlock] using q
      subst q2
      rw [h1] at h2
      injection h2 with h2
      injection h2 with _ h2
      exact he h2

/-- What a reading of a list says. -/
def GRs {β : Type} (f : List UInt8 → Option β) (cv : β → Value) (T : Nat) (B : Nat) (l : List UInt8) (e : Ending) (w' : World) : Prop := (goodL f l = none ∧ e = .returned (.tuple #[.slice none 0 0, .bool false])) ∨ (∃ (cs : List β) (A : Option Addr) (c : Nat), goodL f l = some cs ∧ e = .returned (.tuple #[.slice A cs.length c, .bool true]) ∧ w'.ownsRow B T 1 (.slice A cs.length c) cs.length (cs.map cv))
/-- What a reading of one says. -/
def OV {β : Type} (f : List UInt8 → Option β) (cv : β → Value) (l : List UInt8) (e : Ending) : Prop := (∃ b, f l = some b ∧ e = .returned (.tuple #[cv b, .bool true])) ∨ (∃ v, f l = none ∧ e = .returned (.tuple #[v, .bool false]))
def fvw (v : Nat) : Value := .float .f32 v
theorem RBs.ov {l : List UInt8} {e : Ending} (h : RBs l e) : OV goodw fvw l e := by
  cases g : goodw l with
  | none =>
    obtain ⟨x, rfl⟩ := h.none g
    exact .inr ⟨_, g, rfl⟩
  | some v => exact .inl ⟨v, g, h.some g⟩

end Go.Proofs.YtldnldgndjbhfaaDoor
