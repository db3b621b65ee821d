/- A region that draws its order, piece by piece: a run of plain reads in the order of the text, between operations that make memory. No program. -/
import Derived.Deep.RegionHeld
import Derived.Lib.QuietBelow
namespace Go.Proofs.Ytmnpijhnfdiomaa
open Go.RowKit Go.Sort

/-- Operations that hand back a value and call nothing. -/
def plainOp (o : Oper) : Bool :=
  match o.op with
  | .move _ | .assign _ | .pick .. | .load .. | .binOp .. | .unOp .. | .convert .. | .slice .. | .fieldAddr .. | .field .. | .indexAddr .. | .index .. | .extract .. => true
  | .call c => match c.callee with
    | .builtin .real | .builtin .imag | .builtin .complex | .builtin .len | .builtin .cap | .builtin .min | .builtin .max => true
    | _ => false
  | _ => false

theorem value_of_bind {P : Program} {s : Sem Value} {w w' : World} {n : Next} (h : Sem.run P (do pure (Next.value (← s))) w = .ok n w') : ∃ v, n = .value v := by
  rw [Sem.run_bind] at h
  generalize Sem.run P s w = r at h
  cases r with
  | ok v w1 => simp only [Result.andThen_ok, Sem.run_pure] at h; injection h with h1 h2; exact ⟨v, h1.symm⟩
  | halt x w1 => cases h

theorem plain_value {P : Program} {ρ : Operand → Value} {o : Oper} (ho : plainOp o = true) {w w' : World} {n : Next} (h : (execOp ρ o).run P w = .ok n w') : ∃ v, n = .value v := by
  unfold plainOp at ho
  unfold execOp at h
  split at ho
  all_goals (rename_i e; try rw [e] at h)
  all_goals first | exact value_of_bind h | skip
  all_goals try (simp only [Sem.run_pure] at h; injection h with h1 h2; exact ⟨_, h1.symm⟩)
  · rw [Sem.run_bind] at h
    generalize Sem.run P (asBool _) w = r at h
    cases r with
    | ok v w1 => simp only [Result.andThen_ok, Sem.run_pure] at h; injection h with h1 h2; exact ⟨_, h1.symm⟩
    | halt x w1 => cases h
  · rename_i c
    simp only [resolve] at h
    split at ho
    all_goals first | (rename_i e2; rw [e2] at h; simp only [Sem.run_bind, Sem.run_pure, Result.andThen_ok, invoke, builtin] at h; exact value_of_bind (by rw [Sem.run_bind]; exact h)) | cases ho
  · cases ho

section
variable {P : Program} {ops : Array Oper} {Q : Exit → Act → World → Prop} {md : Region.Mode} {S : World → Prop}

theorem yieldsIf_of_quiet {o : Oper} {a : Act} {K : Act → Prop} (hp : plainOp o = true) (hw : Region.wanted o (yielded ops a.tmps) = true) (h : o.quiet P a S K) : ∃ v, YieldsIf P ops S o v a ∧ K (a.put o.dst v) := by
  obtain ⟨v, h1, h2⟩ := h
  refine ⟨v, .inl ⟨hw, fun w hw' => ?_⟩, h2⟩
  have h3 := h1 w hw'
  unfold Oper.quietAt at h3
  generalize hr : (execOp a.eval o).run P w = r at *
  cases r with
  | ok n w' =>
    obtain ⟨u, rfl⟩ := plain_value hp hr
    simp only [Oper.quietUpon] at h3
    obtain ⟨rfl, rfl⟩ := h3
    rfl
  | halt x w' => simp only [Oper.quietUpon] at h3

/-- Which are listed behind n operations from the k-th on. -/
def markFrom (listed : Array Bool) : Nat → Nat → Array Bool
  | _, 0 => listed
  | k, n + 1 => markFrom (listed.setIfInBounds k true) (k + 1) n

def segB (md : Region.Mode) (ops : Array Oper) : Nat → Nat → Array Bool → Bool
  | _, 0, _ => true
  | k, n + 1, listed => (Region.ready md ops listed).contains k && Region.free md ops listed k && ((ops[k]?).map plainOp).getD false && segB md ops (k + 1) n (listed.setIfInBounds k true)

theorem wpAnyH_seg (hs : Region.noSelect ops = true) (hQ : ∀ c a d v w, Q (.panic c) (Act.put a d v) w → Q (.panic c) a w) (fuel : Nat) :
    ∀ (n k : Nat) (listed : Array Bool) (a : Act) (w : World), S w → segB md ops k n listed = true →
      wpQuiet P ops S (fun a' => ∀ w', S w' → wpAnyH P md ops Q S fuel (markFrom listed k n) a' w') ((ops.toList.drop k).take n) a → wpAnyH P md ops Q S (n + fuel) listed a w
  | 0, k, listed, a, w, hS, _, h => by
    rw [Nat.zero_add]
    exact h w hS
  | n + 1, k, listed, a, w, hS, hB, h => by
    simp only [segB, Bool.and_eq_true] at hB
    obtain ⟨⟨⟨hr, hf⟩, hp⟩, hB⟩ := hB
    generalize ho : ops[k]? = r at hp
    cases r with
    | none => cases hp
    | some o =>
      have hp : plainOp o = true := hp
      have hlt : k < ops.size := by
        rcases Nat.lt_or_ge k ops.size with h' | h'
        · exact h'
        · rw [Array.getElem?_eq_none h'] at ho; cases ho
      have hd : ops.toList.drop k = o :: ops.toList.drop (k + 1) := by
        rw [List.drop_eq_getElem_cons (by simpa using hlt)]
        congr 1
        have := Array.getElem?_eq_getElem hlt
        rw [ho] at this
        injection this with this
        simpa using this.symm
      rw [hd, List.take_succ_cons] at h
      have hgo : ∀ v, YieldsIf P ops S o v a → wpQuiet P ops S (fun a' => ∀ w', S w' → wpAnyH P md ops Q S fuel (markFrom listed k (n + 1)) a' w') ((ops.toList.drop (k + 1)).take n) (a.put o.dst v) → wpAnyH P md ops Q S (n + 1 + fuel) listed a w := fun v hy hq => by
        rw [show n + 1 + fuel = (n + fuel) + 1 from by omega]
        exact wpAnyH_first ho (Region.noSelect_spec hs) (fun c a w h => hQ c a _ _ w h) (n + fuel) listed a w (Region.free_spec ho hf) (by simpa using hr) hy hS
          (wpAnyH_seg hs hQ fuel n (k + 1) _ _ w hS hB hq)
      unfold wpQuiet at h
      by_cases hw : Region.wanted o (yielded ops a.tmps) = true
      · rw [if_pos hw] at h
        obtain ⟨v, hy, hK⟩ := yieldsIf_of_quiet (ops := ops) hp hw h
        exact hgo v hy hK
      · rw [if_neg hw] at h
        exact hgo undef (.inr ⟨by simpa using hw, rfl⟩) h

/-- The end of a region. -/
theorem wpAnyH_end {listed : Array Bool} {a : Act} {w : World} (hr : Region.ready md ops listed = []) (h : Q .normal a w) (fuel : Nat) : wpAnyH P md ops Q S fuel listed a w := wpAnyH_done hr h fuel
end
end Go.Proofs.Ytmnpijhnfdiomaa
