/- Three rows of numbers that lie apart, and an append to one of them; no condition but those stated. -/
import Derived.Test.YtmlocjcfcmifdaaXl
import Derived.Test.YtmlocjcfcmifdaaXm
namespace Go.Proofs.Ytmlocjcfcmifdaa
open Go.RowKit Go.Sort Ieee
set_option linter.unusedSimpArgs false
set_option linter.unusedVariables false

def updW (f : Nat → Nat) (n y : Nat) : Nat → Nat := fun i => if i = n then y else f i
theorem wList_upd (n y : Nat) (f : Nat → Nat) : wList (n + 1) (updW f n y) = wList n f ++ [.float .f32 y] := by
  rw [wList_snoc]
  have e1 : wList n (updW f n y) = wList n f := by
    unfold wList updW
    apply List.map_congr_left
    intro i hi
    rw [if_neg (by have := List.mem_range.1 hi; omega)]
  rw [e1]
  unfold updW
  rw [if_pos rfl]
theorem wpList_append_word {ops : Array Oper} {rest : List Oper} {o : Oper} {a : Act} {w : World} {Q : Exit → Act → World → Prop} (hgd : o.guard = none) (s x : Operand)
    (ho : o.op = .call { callee := .builtin .append, args := #[s, x], argTypes := #[27, 27] })
    (base : Nat) (v : Value) (n : Nat) (f : Nat → Nat) (g y : Nat) (hs : a.eval s = v) (hown : w.ownsRow base 28 1 v n (wList n f)) (hx : a.eval x = .slice (some ⟨g, 0, none⟩) 1 1) (hg : w.cell? ⟨g, 0, none⟩ = some (.float .f32 y)) (hn : n ≤ 10000) (hbase : base ≤ w.heap.size)
    (h : ∀ (A : Option Addr) (c : Nat) (w' : World), w'.ownsRow base 28 1 (.slice A (n + 1) c) (n + 1) (wList (n + 1) (updW f n y)) → w.grownBy w' v.ownBlock → ((Value.slice A (n + 1) c).ownBlock = v.ownBlock ∨ (Value.slice A (n + 1) c).ownBlock = some w.heap.size) → wpList Try.prog ops Q rest (a.put o.dst (.slice A (n + 1) c)) w') :
    wpList Try.prog ops Q (o :: rest) a w := by
  obtain ⟨i0, hi0, hz0, hz1, hz2⟩ := info_parts xinfoF32
  refine wpList_append_own_at _ hgd s x 27 ho base 28 i0 _ 1 4 Try.underlying27 hi0 hz0 hz1 hz2 rfl (by decide) v n _ hs hown ⟨g, 0, none⟩ 1 1 [.float .f32 y] hx rfl ?_ ?_ (by unfold maxLen; omega) (by omega) hbase ?_
  · intro j u hj
    cases j with
    | zero =>
      simp only [List.getElem?_cons_zero, Option.some.injEq] at hj
      subst hj
      exact hg
    | succ j => simp at hj
  · intro u hu
    rw [List.mem_singleton.1 hu]; rfl
  · intro v' w' h1 h2 h3 h4
    obtain ⟨g', cap', rfl, hB', hlt'⟩ := h1.form (by omega)
    exact h _ _ w' (by rw [wList_upd]; exact h1) h2 h4

def XApart (v1 v2 : Value) : Prop := v1.ownBlock = none ∨ v1.ownBlock ≠ v2.ownBlock
theorem XApart.step {w : World} {B e size n : Nat} {v1 v1' v2 : Value} {xs : List Value} (h : w.ownsRow B e size v2 n xs) (d : XApart v1 v2) (d' : XApart v2 v1) (hor : v1'.ownBlock = v1.ownBlock ∨ v1'.ownBlock = some w.heap.size) : XApart v1' v2 ∧ XApart v2 v1' := by
  unfold XApart at *
  rcases hor with h1 | h1
  · rw [h1]; exact ⟨d, d'⟩
  · rw [h1]
    have hl : v2.ownBlock ≠ some w.heap.size := fun e => by have := (h.lt _ e).2; omega
    exact ⟨.inr (fun e => hl e.symm), .inr hl⟩

/-- Three rows that lie apart. -/
structure Three (w : World) (B : Nat) (va : Value) (ja : Nat) (fa : Nat → Nat) (vb : Value) (jb : Nat) (fb : Nat → Nat) (vc : Value) (jc : Nat) (fc : Nat → Nat) : Prop where
  a : w.ownsRow B 28 1 va ja (wList ja fa)
  b : w.ownsRow B 28 1 vb jb (wList jb fb)
  c : w.ownsRow B 28 1 vc jc (wList jc fc)
  ab : XApart va vb
  ba : XApart vb va
  ac : XApart va vc
  ca : XApart vc va
  bc : XApart vb vc
  cb : XApart vc vb
theorem Three.rot {w : World} {B : Nat} {va vb vc : Value} {ja jb jc : Nat} {fa fb fc : Nat → Nat} (T : Three w B va ja fa vb jb fb vc jc fc) : Three w B vb jb fb vc jc fc va ja fa :=
  ⟨T.b, T.c, T.a, T.bc, T.cb, T.ba, T.ab, T.ca, T.ac⟩
theorem Three.set {w w' : World} {B : Nat} {va vb vc va' : Value} {ja jb jc ja' : Nat} {fa fb fc fa' : Nat → Nat} (T : Three w B va ja fa vb jb fb vc jc fc) (hown : w'.ownsRow B 28 1 va' ja' (wList ja' fa')) (hg : w.grownBy w' va.ownBlock) (hor : va'.ownBlock = va.ownBlock ∨ va'.ownBlock = some w.heap.size) : Three w' B va' ja' fa' vb jb fb vc jc fc := by
  obtain ⟨h1, h2⟩ := XApart.step T.b T.ab T.ba hor
  obtain ⟨h3, h4⟩ := XApart.step T.c T.ac T.ca hor
  exact ⟨hown, T.b.kept hg T.ba, T.c.kept hg T.ca, h1, h2, h3, h4, T.bc, T.cb⟩
theorem Three.alloc {w : World} {B : Nat} {va vb vc : Value} {ja jb jc : Nat} {fa fb fc : Nat → Nat} (T : Three w B va ja fa vb jb fb vc jc fc) (o : Obj) : Three (w.alloc o) B va ja fa vb jb fb vc jc fc :=
  ⟨T.a.alloc o, T.b.alloc o, T.c.alloc o, T.ab, T.ba, T.ac, T.ca, T.bc, T.cb⟩
theorem Three.below {w w' : World} {B : Nat} {va vb vc : Value} {ja jb jc : Nat} {fa fb fc : Nat → Nat} (T : Three w B va ja fa vb jb fb vc jc fc) (hb : Below w.heap.size w w') : Three w' B va ja fa vb jb fb vc jc fc := by
  have key : ∀ {v : Value} {n : Nat} {xs : List Value}, w.ownsRow B 28 1 v n xs → w'.ownsRow B 28 1 v n xs := by
    intro v n xs h
    refine ⟨h.1, ?_⟩
    rcases h.2 with hn | ⟨g, cap, cur, h1, h2, h3, h4⟩
    · exact .inl hn
    · exact .inr ⟨g, cap, cur, h1, h2, (hb.block g (Array.getElem?_eq_some_iff.1 h3).1).trans h3, h4⟩
  exact ⟨key T.a, key T.b, key T.c, T.ab, T.ba, T.ac, T.ca, T.bc, T.cb⟩
theorem grown_below {w w' : World} {B : Nat} {v : Value} {n : Nat} {xs : List Value} (h : w.ownsRow B 28 1 v n xs) (hg : w.grownBy w' v.ownBlock) (hB : B ≤ w.heap.size) : Below B w w' :=
  (Below.refl B w).grown hg hB (fun b e => (h.lt b e).1)
theorem own_form' {w : World} {B n : Nat} {A : Option Addr} {c : Nat} {xs : List Value} (h : w.ownsRow B 28 1 (.slice A n c) n xs) (hn : 0 < n) : ∃ g, A = some ⟨g, 0, none⟩ ∧ B ≤ g := by
  rcases h.2 with ⟨_, h0⟩ | ⟨g, cap, cur, e, hB, _⟩
  · omega
  · injection e with e1; exact ⟨g, e1, hB⟩
end Go.Proofs.Ytmlocjcfcmifdaa
