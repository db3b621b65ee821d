/- A range over a function whose iterator writes a captured variable of its own (block g): a law beside the library's. No program. -/
import Derived.RangeFuncWrites
import Derived.RangeFuncBox
namespace Go.Proofs.YtldnldgndjbhfaaDoor
open Go.RowKit

/-- Block g lies as it lay. -/
def Still (g : Nat) (W W' : World) : Prop := W'.heap[g]? = W.heap[g]?

/-- What an invariant bears: a turn of block g, and of a block from B on that holds no cells. -/
def Bears {α : Type} (B g : Nat) (J : List α → World → Prop) : Prop :=
  ∀ s W W' row, J s W → W.grownBy W' row → (∀ r, row = some r → r = g ∨ (B ≤ r ∧ ∃ o : Obj, W.heap[r]? = some o ∧ o.isCells = false)) → J s W'

theorem Bears.obj {α : Type} {B g : Nat} {J : List α → World → Prop} (h : Bears B g J) {s : List α} {W : World} {l : Nat} {o : Obj} (o' : Obj) (hs : J s W) (hB : B ≤ l) (hl : W.heap[l]? = some o) (ho : o.isCells = false) : J s (W.putObj l o') :=
  h s W _ (some l) hs (grownBy_putObj' W l o') (fun r e => by cases e; exact .inr ⟨hB, o, hl, ho⟩)
theorem Bears.new {α : Type} {B g : Nat} {J : List α → World → Prop} (h : Bears B g J) {s : List α} {W : World} (o : Obj) (hs : J s W) : J s (W.alloc o) :=
  h s W _ none hs (World.grownBy_alloc W o none) (fun r e => by cases e)

/-- What an iterator promises that turns its own variable, block g, and nothing else. -/
def Gives {α : Type} (F : Fence) (n : Nat) (P : Program) (gf : Nat) (lb : Array Value) (encs : α → Array Value) (g : Nat) (S Sp : List α → Prop) (N : Nat) (w : World) : Prop :=
  ∀ (l : Nat) (J Jx : List α → World → Prop) (W : World), Still g w W → g < W.heap.size →
    (∀ s A B, J s A → A.grownBy B (some g) → J s B) → (∀ s A B, Jx s A → A.grownBy B (some g) → Jx s B) →
    (∀ pre x W1, J pre W1 → pre.length < N → YieldAt F (n - 1) P l (encs x) W1 fun e W' =>
      (e = .returned (.bool true) ∧ J (pre ++ [x]) W' ∧ Still g W1 W' ∧ W1.heap.size ≤ W'.heap.size) ∨ (e = .returned (.bool false) ∧ Jx (pre ++ [x]) W')) →
    J [] W →
    CallsIn F n P gf (#[.func (.yield l) #[] #[]] ++ lb) W fun e W' => (∃ v, e = .returned v) ∧ ((∃ xs, S xs ∧ J xs W') ∨ (∃ pre, Sp pre ∧ Jx pre W'))

def recOf (fn : FuncId) (tmps : Array Value) (ps : Array Tmp) (assign body : Code) (d : Nat) (st : LoopState) (pe : Option Code) : Loop := { state := st, pending := pe, fn, tmps, params := ps, assign, body, defers := d }

variable {F : Fence} {n : Nat} {P : Program}

theorem range_gives {α : Type} {g : Operand} {ps : Array Tmp} {assign body : Code} {Q : Exit → Act → World → Prop} {a : Act} {w : World}
    (hro : F.round = none) (h1 : 1 ≤ n) {gf : Nat} {lb : Array Value} (hg : a.eval g = .func (.func gf) #[] lb) (hFg : F.fn gf) (eg : ∀ args w, (callFunc gf args).run P w = .ok (.enter gf args) w)
    {encs : α → Array Value} {S Sp : List α → Prop} {N gb : Nat} (hseq : Gives F (n - 1) P gf lb encs gb S Sp N w) (hgb : gb < w.heap.size) (hps : ∀ x, (encs x).size = ps.size)
    (I : List α → World → Prop) (Ix : Code → List α → World → Prop) (hI : Bears w.heap.size gb I) (hIx : ∀ c, Bears w.heap.size gb (Ix c)) (h0 : I [] w) (a₁ : α → Act)
    (hassign : ∀ (l : Nat) (x : α) (W : World) (K : Act → World → Prop), K (a₁ x) W →
      assign.wpIn (F.inRound l) (n - 1 - 1) P (Exit.then K (fun _ _ _ => False)) { tmps := (ps.zip (encs x)).foldl (fun t (p, v) => t.setIfInBounds p v) a.tmps, defers := [] } W)
    (hbody : ∀ (l : Nat) (pre : List α) (x : α) (W : World), I pre W → pre.length < N → body.wpIn (F.inRound l) (n - 1 - 1) P (ownPostG w.heap.size (Still gb) I Ix (pre ++ [x]) W) (a₁ x) W)
    (hdone : ∀ (D : Nat) (xs : List α) (W : World), w.heap.size ≤ D → S xs → I xs W → W.heap[D]? = some (.deferred (some [])) → Q .normal { a with defers := { target := .collected D, args := #[] } :: a.defers } W)
    (hstop : ∀ (D : Nat) (c : Code) (pre : List α) (W : World), w.heap.size ≤ D → Sp pre → Ix c pre W → W.heap[D]? = some (.deferred (some [])) → c.wpIn F n P Q { a with defers := { target := .collected D, args := #[] } :: a.defers } W) :
    (Code.rangeFunc g ps assign body).wpIn F n P Q a w := by
  refine wpIn_rangeFunc fun fn hfn => ?_
  rw [hro]
  obtain ⟨R, hR⟩ : ∃ R : LoopState → Option Code → Loop, R = recOf fn a.tmps ps assign body w.heap.size := ⟨_, rfl⟩
  have ent := run_enterLoop_outer (P := P) (w := w) fn a.tmps ps assign body
  rw [show ({ state := .ready, pending := none, fn, tmps := a.tmps, params := ps, assign, body, defers := w.heap.size } : Loop) = R .ready none from by rw [hR]; rfl] at ent
  have at1 : ((w.alloc (.deferred (some []))).alloc (.loop (R .ready none))).heap[w.heap.size + 1]? = some (.loop (R .ready none)) := by
    have := World.alloc_heap_new (w.alloc (.deferred (some []))) (.loop (R .ready none))
    rwa [World.size_alloc] at this
  have at0 : ((w.alloc (.deferred (some []))).alloc (.loop (R .ready none))).heap[w.heap.size]? = some (.deferred (some [])) :=
    (Below.heap_alloc _ _ _ (by simp)).trans (World.alloc_heap_new w _)
  have still1 : Still gb w ((w.alloc (.deferred (some []))).alloc (.loop (R .ready none))) := by
    unfold Still
    rw [Below.heap_alloc _ _ _ (by simp; omega), Below.heap_alloc _ _ _ hgb]
  have init : I [] ((w.alloc (.deferred (some []))).alloc (.loop (R .ready none))) := hI.new _ (hI.new _ h0)
  have size1 : gb < ((w.alloc (.deferred (some []))).alloc (.loop (R .ready none))).heap.size := by simp; omega
  generalize (w.alloc (.deferred (some []))).alloc (.loop (R .ready none)) = W1 at *
  refine ⟨w.heap.size + 1, [{ target := .collected w.heap.size, args := #[] }], W1, { target := .fn (.func gf) lb, args := #[.func (.yield (w.heap.size + 1)) #[] #[]] }, W1, gf, #[.func (.yield (w.heap.size + 1)) #[] #[]] ++ lb, W1, ent, ?_, ?_, ?_, fun _ => h1, ?_⟩
  · simp only [resolve, hg]
    simp [go_sem]
  · intro f' hf'
    simp [Target.leads] at hf'
    subst hf'
    exact hFg
  · simp [invoke, go_sem, eg]
  have pend : ∀ st c, (R st c).pending = c := fun st c => by rw [hR]; rfl
  have stat : ∀ st c, (R st c).state = st := fun st c => by rw [hR]; rfl
  have turn : ∀ st c st' c', ({ R st c with state := st', pending := c' } : Loop) = R st' c' := fun st c st' c' => by rw [hR]; rfl
  have turn' : ∀ st c st', ({ R st c with state := st' } : Loop) = R st' c := fun st c st' => by rw [hR]; rfl
  have psz : ∀ x : α, (encs x).size = (R .ready none).params.size := fun x => by rw [hR]; exact hps x
  -- what lies still while block gb turns
  have keepsAt : ∀ {A B : World} {k : Nat} {o : Obj}, A.grownBy B (some gb) → A.heap[k]? = some o → k ≠ gb → B.heap[k]? = some o := fun {A B k o} hAB hk hne =>
    (hAB.block k (Array.getElem?_eq_some_iff.1 hk).1 (fun e => hne (by cases e; rfl))).trans hk
  have own1 : ∀ s A B, (I s A ∧ A.heap[w.heap.size + 1]? = some (.loop (R .ready none)) ∧ A.heap[w.heap.size]? = some (.deferred (some []))) → A.grownBy B (some gb) → (I s B ∧ B.heap[w.heap.size + 1]? = some (.loop (R .ready none)) ∧ B.heap[w.heap.size]? = some (.deferred (some []))) :=
    fun s A B h hAB => ⟨hI s A B _ h.1 hAB (fun r e => by cases e; exact .inl rfl), keepsAt hAB h.2.1 (by omega), keepsAt hAB h.2.2 (by omega)⟩
  have own2 : ∀ s A B, (∃ c, Ix c s A ∧ A.heap[w.heap.size + 1]? = some (.loop (R .done (some c))) ∧ A.heap[w.heap.size]? = some (.deferred (some []))) → A.grownBy B (some gb) → (∃ c, Ix c s B ∧ B.heap[w.heap.size + 1]? = some (.loop (R .done (some c))) ∧ B.heap[w.heap.size]? = some (.deferred (some []))) :=
    fun s A B h hAB => by
      obtain ⟨c, h1, h2, h3⟩ := h
      exact ⟨c, hIx c s A B _ h1 hAB (fun r e => by cases e; exact .inl rfl), keepsAt hAB h2 (by omega), keepsAt hAB h3 (by omega)⟩
  refine (hseq (w.heap.size + 1) (fun s A => I s A ∧ A.heap[w.heap.size + 1]? = some (.loop (R .ready none)) ∧ A.heap[w.heap.size]? = some (.deferred (some []))) (fun s A => ∃ c, Ix c s A ∧ A.heap[w.heap.size + 1]? = some (.loop (R .done (some c))) ∧ A.heap[w.heap.size]? = some (.deferred (some []))) W1 still1 size1 own1 own2 ?round ⟨init, at1, at0⟩).mono ?behind
  case round =>
    rintro pre x A ⟨hi, hrec, hdef⟩ hlen
    have hlt : w.heap.size + 1 < A.heap.size := (Array.getElem?_eq_some_iff.1 hrec).1
    have yl := run_yield (P := P) (args := encs x) hrec (psz x)
    have bg := run_beginRound (P := P) hrec (stat _ _)
    rw [turn'] at bg
    have busy : (A.putObj (w.heap.size + 1) (.loop (R .busy none))).heap[w.heap.size + 1]? = some (.loop (R .busy none)) := World.putObj_heap_same hlt
    have defd : (A.putObj (w.heap.size + 1) (.loop (R .busy none))).heap[w.heap.size]? = some (.deferred (some [])) := (World.putObj_heap_other (by omega)).trans hdef
    have st0 : Still gb A (A.putObj (w.heap.size + 1) (.loop (R .busy none))) := World.putObj_heap_other (by omega)
    have si0 : A.heap.size ≤ (A.putObj (w.heap.size + 1) (.loop (R .busy none))).heap.size := by simp
    have ibusy := hI.obj (.loop (R .busy none)) hi (by omega) hrec rfl
    generalize A.putObj (w.heap.size + 1) (.loop (R .busy none)) = C at *
    rw [show (R .ready none).fn = fn from by rw [hR]; rfl, show (R .ready none).tmps = a.tmps from by rw [hR]; rfl, show (R .ready none).params = ps from by rw [hR]; rfl, show (R .ready none).assign = assign from by rw [hR]; rfl, show (R .ready none).body = body from by rw [hR]; rfl] at yl
    refine ⟨fn, _, assign, body, yl, roundIn_of_wpIn hfn (hassign _ x A _ ⟨_, bg, ?_⟩)⟩
    refine wpIn_mono (hbody _ pre x C ibusy hlen) ?_
    -- a round's end, whatever the jump
    have ends : ∀ (j : Option Code) (Z : World), KeepsFrom w.heap.size C Z → ∃ Y, (Instr.endRound (w.heap.size + 1) j).run P Z = .ok (.bool j.isNone) Y ∧ Y = Z.putObj (w.heap.size + 1) (.loop (R (if j.isNone then .ready else .done) j)) ∧ Z.heap[w.heap.size + 1]? = some (.loop (R .busy none)) ∧ Y.heap[w.heap.size + 1]? = some (.loop (R (if j.isNone then .ready else .done) j)) ∧ Y.heap[w.heap.size]? = some (.deferred (some [])) ∧ Still gb Z Y ∧ Z.heap.size ≤ Y.heap.size := fun j Z hZ => by
      have b3 := hZ.same _ _ (by omega) busy rfl
      have er := run_endRound (P := P) j b3
      rw [turn] at er
      exact ⟨_, er, rfl, b3, World.putObj_heap_same (Array.getElem?_eq_some_iff.1 b3).1, (World.putObj_heap_other (by omega)).trans (hZ.same _ _ (Nat.le_refl _) defd rfl), World.putObj_heap_other (by omega), by simp⟩
    intro e a3 Z hp
    cases e with
    | normal =>
      obtain ⟨hk, hs, hi3⟩ := hp
      obtain ⟨Y, hr, hY, hb3, hy1, hy0, hst, hsz⟩ := ends none Z hk
      subst hY
      exact ⟨_, _, hr, .inl ⟨rfl, ⟨hI.obj _ hi3 (by omega) hb3 rfl, hy1, hy0⟩, hst.trans (hs.trans st0), by have := hk.size; omega⟩⟩
    | ret =>
      obtain ⟨hk, hi3⟩ := hp
      obtain ⟨Y, hr, hY, hb3, hy1, hy0, _, _⟩ := ends (some .ret) Z hk
      subst hY
      exact ⟨_, _, hr, .inr ⟨rfl, _, (hIx _).obj _ hi3 (by omega) hb3 rfl, hy1, hy0⟩⟩
    | exit id =>
      obtain ⟨hk, hi3⟩ := hp
      obtain ⟨Y, hr, hY, hb3, hy1, hy0, _, _⟩ := ends (some (.exit id)) Z hk
      subst hY
      exact ⟨_, _, hr, .inr ⟨rfl, _, (hIx _).obj _ hi3 (by omega) hb3 rfl, hy1, hy0⟩⟩
    | goto t =>
      obtain ⟨hk, hi3⟩ := hp
      obtain ⟨Y, hr, hY, hb3, hy1, hy0, _, _⟩ := ends (some (.goto t)) Z hk
      subst hY
      exact ⟨_, _, hr, .inr ⟨rfl, _, (hIx _).obj _ hi3 (by omega) hb3 rfl, hy1, hy0⟩⟩
    | panic ch => exact hp.elim
    | outgrown => exact hp.elim
  case behind =>
    rintro e Z ⟨⟨v, rfl⟩, h | h⟩
    · obtain ⟨xs, hS, hi, hrec, hdef⟩ := h
      have el := run_endLoop (P := P) hrec (by rw [stat]; simp)
      rw [pend] at el
      exact ⟨none, _, el, hdone _ xs _ (Nat.le_refl _) hS (hI.obj _ hi (by omega) hrec rfl) ((World.putObj_heap_other (by omega)).trans hdef)⟩
    · obtain ⟨pre, hSp, c, hi, hrec, hdef⟩ := h
      have el := run_endLoop (P := P) hrec (by rw [stat]; simp)
      rw [pend] at el
      exact ⟨some c, _, el, hstop _ c pre _ (Nat.le_refl _) hSp ((hIx c).obj _ hi (by omega) hrec rfl) ((World.putObj_heap_other (by omega)).trans hdef)⟩
end Go.Proofs.YtldnldgndjbhfaaDoor
