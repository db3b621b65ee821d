/- Plain: what a cloud's text says; what both readings of it hand back. -/
import Derived.Test.YtdkjaffnkgbcnaaGreatDoorYf
import Derived.Test.YtdkjaffnkgbcnaaGreatDoorUn
import Derived.Test.YtdkjaffnkgbcnaaGreatDoorVCloud2
namespace Go.Proofs.YtdkjaffnkgbcnaaGreatDoor
open Go.RowKit Go.Sort
set_option linter.unusedSimpArgs false

/-- A particle's words as a particle. -/
def toPD (v : W6) : PD := ⟨v.1, v.2.1, v.2.2.1, v.2.2.2.1, v.2.2.2.2.1, v.2.2.2.2.2⟩
def readPD (l : List UInt8) : Option PD := (readP l).map toPD
theorem readPD_some {l : List UInt8} {p : PD} (h : readPD l = some p) : rpOut (readP l) = #[.agg #[.complex .f32 p.a p.b, .complex .f32 p.c p.d, .float .f32 p.q, .float .f32 p.m], .bool true] ∧ p.ok = true := by
  unfold readPD at h
  cases hr : readP l with
  | none => rw [hr] at h; cases h
  | some v =>
    rw [hr] at h
    obtain ⟨a, b, c, d, x, y⟩ := v
    have h2 : toPD (a, b, c, d, x, y) = p := Option.some.inj h
    subst h2
    exact ⟨rfl, readP_ok hr⟩
theorem readPD_none {l : List UInt8} (h : readPD l = none) : rpOut (readP l) = #[.agg #[.complex .f32 0 0, .complex .f32 0 0, .float .f32 0, .float .f32 0], .bool false] := by
  unfold readPD at h
  cases hr : readP l with
  | none => rfl
  | some v => rw [hr] at h; cases h
/-- The particles with a text. -/
def partsP (l : List UInt8) : Option (List PD) := if l = [110, 111, 110, 101] then some [] else allOf readPD (parts 47 [] l)
/-- A cloud's numbers and particles. -/
abbrev C5 := Int × Int × Nat × Nat × List PD
def mixC : Option (List Int) → Option (List Nat) → Option (List PD) → Option C5
  | some [x, y], some [m, k], some ps => if okCloud x y ps.length m k then some (x, y, m, k, ps) else none
  | _, _, _ => none
theorem mixC_1 (b : Option (List Nat)) (c : Option (List PD)) : mixC none b c = none := by
  unfold mixC
  split
  · rename_i h; cases h
  · rfl
theorem mixC_2 (a : Option (List Int)) (c : Option (List PD)) : mixC a none c = none := by
  unfold mixC
  split
  · rename_i h; cases h
  · rfl
theorem mixC_3 (a : Option (List Int)) (b : Option (List Nat)) : mixC a b none = none := by
  unfold mixC
  split
  · rename_i h; cases h
  · rfl
theorem mixC_l1 (a : List Int) (b : Option (List Nat)) (c : Option (List PD)) (h : a.length ≠ 2) : mixC (some a) b c = none := by
  unfold mixC
  split
  · rename_i h1; injection h1 with h1; subst h1; exact absurd rfl h
  · rfl
theorem mixC_l2 (a : Option (List Int)) (b : List Nat) (c : Option (List PD)) (h : b.length ≠ 2) : mixC a (some b) c = none := by
  unfold mixC
  split
  · rename_i h1; injection h1 with h1; subst h1; exact absurd rfl h
  · rfl
theorem mixC_all (x y : Int) (m k : Nat) (ps : List PD) : mixC (some [x, y]) (some [m, k]) (some ps) = if okCloud x y ps.length m k then some (x, y, m, k, ps) else none := rfl
/-- The cloud with a text. -/
def readC (l : List UInt8) : Option C5 := match parts 59 [] l with
  | [a, b, c] => mixC (goodM goodd a) (goodL goodw b) (partsP c)
  | _ => none
theorem readC_3 {l a b c : List UInt8} (h : parts 59 [] l = [a, b, c]) : readC l = mixC (goodM goodd a) (goodL goodw b) (partsP c) := by
  unfold readC
  rw [h]
theorem readC_else {l : List UInt8} (h : (parts 59 [] l).length ≠ 3) : readC l = none := by
  unfold readC
  split
  · rename_i h2; rw [h2] at h; exact absurd rfl h
  · rfl
theorem allOf_ok {ls : List (List UInt8)} : ∀ {ps : List PD}, allOf readPD ls = some ps → ps.all PD.ok = true := by
  induction ls with
  | nil => intro ps h; have h2 : [] = ps := Option.some.inj h; subst h2; rfl
  | cons a r ih =>
    intro ps h
    cases ha : readPD a with
    | none => rw [allOf_none ha] at h; cases h
    | some p =>
      rw [allOf_some ha] at h
      cases hr : allOf readPD r with
      | none => rw [hr] at h; cases h
      | some qs =>
        rw [hr] at h
        have h2 : p :: qs = ps := Option.some.inj h
        subst h2
        rw [List.all_cons, (readPD_some ha).2, ih hr]
        rfl

def cX : Option C5 → Int
  | some v => v.1
  | none => 0
def cY : Option C5 → Int
  | some v => v.2.1
  | none => 0
def cM : Option C5 → Nat
  | some v => v.2.2.1
  | none => 0
def cK : Option C5 → Nat
  | some v => v.2.2.2.1
  | none => 0
def cP : Option C5 → List PD
  | some v => v.2.2.2.2
  | none => []
/-- What both functions hand back. -/
def RC (l : List UInt8) (w : World) (e : Ending) (w' : World) : Prop :=
  ∃ a n c, e = .returned (.tuple #[cloudV (cX (readC l)) (cY (readC l)) (.slice a n c) (cM (readC l)) (cK (readC l)), .bool (readC l).isSome]) ∧ w'.ownsRow w.heap.size 43 4 (.slice a n c) (cP (readC l)).length (psCells (cP (readC l))) ∧ Below w.heap.size w w'
theorem RC.no {l : List UInt8} {w w' : World} (hf : readC l = none) (hb : Below w.heap.size w w') : RC l w (.returned (.tuple #[cloudV 0 0 (.slice none 0 0) 0 0, .bool false])) w' := by
  unfold RC
  rw [hf]
  exact ⟨none, 0, 0, rfl, World.ownsRow_nil _ _ _ _, hb⟩
theorem RC.yes {l : List UInt8} {w w' : World} {x y : Int} {m k : Nat} {ps : List PD} {a : Option Addr} {n c : Nat} (hf : readC l = some (x, y, m, k, ps)) (ho : w'.ownsRow w.heap.size 43 4 (.slice a n c) ps.length (psCells ps)) (hb : Below w.heap.size w w') :
    RC l w (.returned (.tuple #[cloudV x y (.slice a n c) m k, .bool true])) w' := by
  unfold RC
  rw [hf]
  exact ⟨a, n, c, rfl, ho, hb⟩
theorem readC_cut {l : List UInt8} {v : C5} (h : readC l = some v) : okCloud v.1 v.2.1 v.2.2.2.2.length v.2.2.1 v.2.2.2.1 = true ∧ v.2.2.2.2.all PD.ok = true := by
  unfold readC at h
  split at h
  · rename_i a b c _
    unfold mixC at h
    split at h
    · rename_i x y m k ps _ _ hp
      split at h
      · rename_i hok
        have h2 := Option.some.inj h
        subst h2
        refine ⟨hok, ?_⟩
        unfold partsP at hp
        split at hp
        · have h3 := Option.some.inj hp
          show ps.all PD.ok = true
          rw [← h3]; rfl
        · exact allOf_ok hp
      · cases h
    · cases h
  · cases h
theorem psCells_app (ps : List PD) (p : PD) : psCells (ps ++ [p]) = psCells ps ++ p.cells := by
  unfold psCells
  rw [List.flatMap_append]
  simp
theorem three_of {α : Type} {l : List α} (h : l.length = 3) : ∃ a b c, l = [a, b, c] := by
  match l, h with
  | [a, b, c], _ => exact ⟨a, b, c, rfl⟩
end Go.Proofs.YtdkjaffnkgbcnaaGreatDoor
