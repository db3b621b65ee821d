/- Plain: lists of leaps: they run, up to five one after another, and the first, undone, leads back, nearly. No condition on the program. Plain: the words that leaps end in are words of 32 bits. No condition on the program. -/
import Derived.Test.YtdonmboidpppmaaVe
import Derived.Test.YtdonmboidpppmaaVh
import Derived.Test.YtdonmboidpppmaaBl
import Derived.Test.YtdonmboidpppmaaMa
import Derived.Test.YtdonmboidpppmaaHc
namespace Go.Proofs.Ytdonmboidpppmaa
open Go Go.RowKit Ieee
set_option linter.unusedSimpArgs false
set_option linter.unusedVariables false

theorem pick_list {α β : Type} (R : α → β → Prop) : ∀ (ps : List α), (∀ p ∈ ps, ∃ q, R p q) → ∃ qs : List β, qs.length = ps.length ∧ ∀ (i : Nat) (h : i < ps.length) (h' : i < qs.length), R ps[i] qs[i]
  | [], _ => ⟨[], rfl, fun i h _ => absurd h (by simp)⟩
  | p :: ps, hp => by
    obtain ⟨q, hq⟩ := hp p List.mem_cons_self
    obtain ⟨qs, hl, hr⟩ := pick_list R ps (fun x hx => hp x (List.mem_cons_of_mem _ hx))
    refine ⟨q :: qs, by simp [hl], fun i h h' => ?_⟩
    cases i with
    | zero => exact hq
    | succ i => exact hr i (by simpa using h) (by simpa using h')
theorem gp_pw (p : GP) (hp : p.ok) : PW p.pd 1 := by
  have I := pin_of p hp 0 0 0 0 ⟨by omega, by omega⟩ ⟨by omega, by omega⟩ ⟨by omega, by omega⟩ ⟨by omega, by omega⟩
  have e63 : ((63 : Int) : Rat) = 63 := rfl
  have b63 := fun (n : Int) (a : -63 ≤ n) (b : n ≤ 63) => (wd8_bd n 63 a b (by omega)).mono (e' := 8) (by rw [e63]; grind)
  exact ⟨I.P.hx, I.P.hy, I.P.hu, I.P.hv, I.P.hq, I.P.hm, b63 _ (by have := hp.1; omega) (by have := hp.1; omega), b63 _ (by have := hp.2.1; omega) (by have := hp.2.1; omega), I.bu, I.bv, I.bq, I.m0, I.m1⟩
/-- A drawn field's words. -/
def fWords (k : Nat) (fs : List Int) : List Nat := fs.map (wd single k)
theorem fWords_fld (W H : Nat) (fs : List Int) (hl : fs.length = W * H) (hs : Small fs 8) : Fld W H (fWords 2 fs) := by
  have key : ∀ z ∈ fWords 2 fs, Nm single z ∧ Cl (V single z) 0 2 := by
    intro z hz
    obtain ⟨n, hn, rfl⟩ := List.mem_map.1 hz
    have b := hs n hn
    obtain ⟨h1, h2⟩ := V_wd (f := single) fit_single 2 n (by decide) (by show n.natAbs < 16777216; omega)
    refine ⟨h1, ?_⟩
    rw [h2, (p2_of 0 (by omega)).2.1]
    have a := Rat.intCast_le_intCast.2 (show (-8 : Int) ≤ n by omega)
    have c := Rat.intCast_le_intCast.2 (show n ≤ (8 : Int) by omega)
    rw [show ((-8 : Int) : Rat) = -8 from rfl] at a
    rw [show ((8 : Int) : Rat) = 8 from rfl] at c
    unfold Cl
    constructor <;> grind
  exact ⟨by unfold fWords; rw [List.length_map]; exact hl, fun z hz => (key z hz).1, fun z hz => (key z hz).2⟩
theorem FldAt.words {w : World} {g k : Nat} {fs : List Int} (h : FldAt w g k fs) : FldW w g (fWords k fs) := ⟨h.1, fun i hi => by
  unfold fWords at *
  rw [List.getElem_map]
  exact h.2 i (by simpa using hi)⟩

/-- What is told of a particle and what it is led back to. -/
structure NearW (W H : Nat) (p q : PD) (a b L1 D1 D : Nat) : Prop where
  betw : BetwP W H p.a p.b q.a q.b a b
  long : LongW a b L1
  wide : floatToFloatBits .f32 L1 .f64 = some D1
  small : (FloatKind.f64.format.order D1 4562254508917369340 == some .gt) = false
  apart : ApartW q.c q.d p.c p.d D
  close : (FloatKind.f64.format.order D 4576918229304087675 == some .gt) = false
theorem c01 : Nm double 4576918229304087675 ∧ (99 / 10000 : Rat) ≤ V double 4576918229304087675 := ⟨⟨false, 5764607523034235, -59, by decide +kernel⟩, by decide +kernel⟩
theorem nearW_of {W H : Nat} {F1 F2 : List Nat} {mag tick : Nat} {p p' q : PD} (hS : Sides W H) (P0 : PW p 1) (N : BackN W H F1 F2 mag tick p p' q) : ∃ a b L1 D1 D, NearW W H p q a b L1 D1 D := by
  have Q := N.Q1
  obtain ⟨K, k⟩ := N.kx
  obtain ⟨M, m⟩ := N.ky
  obtain ⟨a, b, hb, na, nb, ca, cb⟩ := betw_to hS P0.na P0.nb Q.na Q.nb P0.ba P0.bb Q.ba Q.bb (tx := 0) (ty := 0) (e := 1 / 57000) ⟨K, by unfold Cl at k ⊢; constructor <;> grind⟩ ⟨M, by unfold Cl at m ⊢; constructor <;> grind⟩ (by unfold Cl; constructor <;> grind) (by unfold Cl; constructor <;> grind) (by grind)
  obtain ⟨L, hL, len⟩ := long2 na nb (ca.mono (by grind)) (cb.mono (by grind))
  obtain ⟨D1, hD, nD, vD⟩ := widen_V len.nm
  have s1 := ca.prod ca
  have s2 := cb.prod cb
  have up := len.high (1 / 10000) (by grind) (by unfold Cl at s1 s2; grind)
  obtain ⟨D, hA, nA, _, dA⟩ := apart_near Q.nc Q.nd P0.nc P0.nd (1 / 220) N.cu N.cv (by grind)
  refine ⟨a, b, L, D1, D, hb, hL, hD, ?_, hA, ?_⟩
  · exact not_gt nD c001.1 (by rw [vD]; have := c001.2.1; grind)
  · exact not_gt nA c01.1 (by have := c01.2; grind)

/-- All that is told of a list of particles. -/
structure BTold (W H : Nat) (F1 F2 : List Nat) (mag tick : Nat) (gs : List PD) (L : Nat → List PD) (Bd : Nat → Rat) (Q : List PD) : Prop where
  l0 : L 0 = gs
  len : ∀ k, k ≤ 5 → (L k).length = gs.length
  leap : ∀ k, k < 5 → LeapL W H F1 F2 mag tick (L k) (L (k + 1))
  all : ∀ k, k ≤ 5 → AllW (Bd k) (L k)
  back : BackL W H F1 F2 mag tick (L 1) Q
  qlen : Q.length = gs.length
  qall : AllW 2 Q
  near : ∀ (i : Nat) (h : i < gs.length) (h' : i < Q.length), ∃ a b L1 D1 D, NearW W H gs[i] Q[i] a b L1 D1 D
theorem allW_of {B : Rat} {ps qs : List PD} (hl : qs.length = ps.length) (h : ∀ (i : Nat) (h : i < ps.length) (h' : i < qs.length), PW qs[i] B) : AllW B qs := fun q hq => by
  obtain ⟨i, hi, rfl⟩ := List.getElem_of_mem hq
  exact h i (by omega) hi
theorem leaps_ex {W H : Nat} {F1 F2 : List Nat} {mag tick : Nat} {ps : List PD} {B : Rat} (h : Sides W H) (f1 : Fld W H F1) (f2 : Fld W H F2) (nmag : Nm single mag) (bmag : Cl (V single mag) 0 1) (nt : Nm single tick) (bt : Cl (V single tick) 0 1) (P0 : AllW B ps) (hB : B ≤ 800) : ∃ qs, LeapL W H F1 F2 mag tick ps qs ∧ AllW (2 * B + 50) qs := by
  obtain ⟨qs, hl, hr⟩ := pick_list (fun p q => LeapW W H F1 F2 mag tick p q ∧ PW q (2 * B + 50)) ps (fun p hp => leap_ex h f1 f2 nmag bmag nt bt (P0 p hp) hB)
  exact ⟨qs, ⟨hl, fun i a b => (hr i a b).1⟩, allW_of hl (fun i a b => (hr i a b).2)⟩
theorem btold_any {W H : Nat} {F1 F2 : List Nat} {mag tick : Nat} (h : Sides W H) (f1 : Fld W H F1) (f2 : Fld W H F2) (nmag : Nm single mag) (bmag : Cl (V single mag) 0 1) (nt : Nm single tick) (bt : Cl (V single tick) 0 1) (gs : List PD) (P0 : AllW 1 gs) : ∃ L Bd Q, BTold W H F1 F2 mag tick gs L Bd Q := by
  obtain ⟨prs, hl, hr⟩ := pick_list (fun p (x : PD × PD) => BackN W H F1 F2 mag tick p x.1 x.2) gs (fun p hp => by
    obtain ⟨p', q, hN⟩ := leap_back h f1 f2 nmag bmag nt bt (P0 p hp)
    exact ⟨(p', q), hN⟩)
  have l1 : (prs.map Prod.fst).length = gs.length := by rw [List.length_map, hl]
  have l2 : (prs.map Prod.snd).length = gs.length := by rw [List.length_map, hl]
  have g1 : ∀ (i : Nat) (a : i < gs.length) (b : i < (prs.map Prod.fst).length) (c : i < (prs.map Prod.snd).length), BackN W H F1 F2 mag tick gs[i] (prs.map Prod.fst)[i] (prs.map Prod.snd)[i] := fun i a b c => by
    rw [List.getElem_map, List.getElem_map]
    exact hr i a (by omega)
  generalize prs.map Prod.fst = M1 at *
  generalize prs.map Prod.snd = Q at *
  have a1 : AllW 52 M1 := allW_of l1 (fun i a b => (g1 i a b (by omega)).P1)
  have k1 : LeapL W H F1 F2 mag tick gs M1 := ⟨l1, fun i a b => (g1 i a b (by omega)).leap⟩
  have aq : AllW 2 Q := allW_of l2 (fun i a b => (g1 i a (by omega) b).Q1)
  obtain ⟨M2, k2, a2⟩ := leaps_ex h f1 f2 nmag bmag nt bt a1 (by grind)
  obtain ⟨M3, k3, a3⟩ := leaps_ex h f1 f2 nmag bmag nt bt a2 (by grind)
  obtain ⟨M4, k4, a4⟩ := leaps_ex h f1 f2 nmag bmag nt bt a3 (by grind)
  obtain ⟨M5, k5, a5⟩ := leaps_ex h f1 f2 nmag bmag nt bt a4 (by grind)
  refine ⟨fun k => match k with | 0 => gs | 1 => M1 | 2 => M2 | 3 => M3 | 4 => M4 | _ => M5, fun k => match k with | 0 => 1 | 1 => 52 | 2 => 2 * 52 + 50 | 3 => 2 * (2 * 52 + 50) + 50 | 4 => 2 * (2 * (2 * 52 + 50) + 50) + 50 | _ => 2 * (2 * (2 * (2 * 52 + 50) + 50) + 50) + 50, Q, rfl, ?_, ?_, ?_, ?_, l2, aq, ?_⟩
  · intro k hk
    have hs : k = 0 ∨ k = 1 ∨ k = 2 ∨ k = 3 ∨ k = 4 ∨ k = 5 := by omega
    have e2 := k2.1
    have e3 := k3.1
    have e4 := k4.1
    have e5 := k5.1
    rcases hs with rfl | rfl | rfl | rfl | rfl | rfl
    · rfl
    · exact l1
    · exact e2.trans l1
    · exact e3.trans (e2.trans l1)
    · exact e4.trans (e3.trans (e2.trans l1))
    · exact e5.trans (e4.trans (e3.trans (e2.trans l1)))
  · intro k hk
    have hs : k = 0 ∨ k = 1 ∨ k = 2 ∨ k = 3 ∨ k = 4 := by omega
    rcases hs with rfl | rfl | rfl | rfl | rfl
    · exact k1
    · exact k2
    · exact k3
    · exact k4
    · exact k5
  · intro k hk
    have hs : k = 0 ∨ k = 1 ∨ k = 2 ∨ k = 3 ∨ k = 4 ∨ k = 5 := by omega
    rcases hs with rfl | rfl | rfl | rfl | rfl | rfl
    · exact P0
    · exact a1
    · exact a2
    · exact a3
    · exact a4
    · exact a5
  · exact ⟨l2.trans l1.symm, fun i a b => (g1 i (by rw [← l1]; exact a) a b).back⟩
  · intro i a b
    exact nearW_of h (P0 _ (List.getElem_mem a)) (g1 i a (by omega) b)
end Go.Proofs.Ytdonmboidpppmaa
namespace Go.Proofs.Ytdonmboidpppmaa
open Go Go.RowKit Ieee
set_option linter.unusedSimpArgs false
set_option linter.unusedVariables false

theorem self_eq {z : Nat} (n : Nm single z) : FloatKind.f32.format.order z z = some .eq := by
  have o := order_V n n
  rw [show FloatKind.f32.format.order z z = single.order z z from rfl, o, if_neg (by grind), if_pos rfl]
theorem lt_of_wf {r : Nat} (h : (Lit.float .f32 r).wf = true) : (r : Int) < 4294967296 := by
  have : r < 4294967296 := by simpa [Lit.wf] using h
  omega
theorem op_num {op : BinOp} {a b r : Nat} (h : floatBits op .f32 a b = some r) (n : Nm single r) : Num r := ⟨lt_of_wf (floatBits_wf h), self_eq n⟩
theorem wrap_num {x side r : Nat} (h : WrapW x side r) (n : Nm single r) : Num r := by
  refine ⟨?_, self_eq n⟩
  obtain ⟨D, q, p, d, nn, e1, e2, _, e4, e5, e6, hc⟩ := h
  have w := lt_of_wf (floatToFloatBits_wf (floatBits_wf e5) e6)
  rcases hc with ⟨_, _, rfl⟩ | ⟨_, _, rfl⟩ | ⟨_, _, rfl⟩ | ⟨_, rfl⟩ | ⟨_, rfl⟩
  · exact w
  all_goals decide
theorem push_num {u v q m fx fy mag tick re im : Nat} (h : PushW u v q m fx fy mag tick re im) (n1 : Nm single re) (n2 : Nm single im) : Num re ∧ Num im := by
  obtain ⟨kx, ky, tr, ti, s1, s2, a, b, hk, ht, e1, e2, hm, e3, e4⟩ := h
  exact ⟨op_num e3 n1, op_num e4 n2⟩
theorem drift_num {W H x y u v tick rx ry : Nat} (h : DriftW W H x y u v tick rx ry) (n1 : Nm single rx) (n2 : Nm single ry) : Num rx ∧ Num ry := by
  obtain ⟨dx, dy, sx, sy, e1, e2, e3, e4, m1, m2, w1, w2⟩ := h
  exact ⟨wrap_num w1 n1, wrap_num w2 n2⟩
theorem LeapW.num {W H : Nat} {F1 F2 : List Nat} {mag tick : Nat} {p p' : PD} {B : Rat} (h : LeapW W H F1 F2 mag tick p p') (hp : p.num) (P : PW p' B) : p'.num := by
  obtain ⟨rx, ry, cx, cy, fx, fy, hA, hG1, hG2, n1, n2, hP, n3, n4, hD, e1, e2⟩ := h
  obtain ⟨_, _, _, _, h5, h6⟩ := hp
  obtain ⟨a, b⟩ := drift_num hD P.na P.nb
  obtain ⟨c, d⟩ := push_num hP n3 n4
  exact ⟨a, b, c, d, by rw [e1]; exact h5, by rw [e2]; exact h6⟩
theorem BackW.num {W H : Nat} {F1 F2 : List Nat} {mag tick : Nat} {p p' : PD} {B : Rat} (h : BackW W H F1 F2 mag tick p p') (hp : p.num) (P : PW p' B) : p'.num := by
  obtain ⟨rx, ry, cx, cy, fx, fy, hD, hA, hG1, hG2, n1, n2, hP, n3, n4, e1, e2⟩ := h
  obtain ⟨_, _, _, _, h5, h6⟩ := hp
  obtain ⟨a, b⟩ := drift_num hD P.na P.nb
  obtain ⟨c, d⟩ := push_num hP n3 n4
  exact ⟨a, b, c, d, by rw [e1]; exact h5, by rw [e2]; exact h6⟩
def AllN (ps : List PD) : Prop := ∀ p ∈ ps, p.num
theorem LeapL.num {W H : Nat} {F1 F2 : List Nat} {mag tick : Nat} {ps qs : List PD} {B : Rat} (h : LeapL W H F1 F2 mag tick ps qs) (hp : AllN ps) (P : AllW B qs) : AllN qs := fun q hq => by
  obtain ⟨i, hi, rfl⟩ := List.getElem_of_mem hq
  have hl := h.1
  exact (h.2 i (by omega) hi).num (hp _ (List.getElem_mem (by omega))) (P _ hq)
theorem BackL.num {W H : Nat} {F1 F2 : List Nat} {mag tick : Nat} {ps qs : List PD} {B : Rat} (h : BackL W H F1 F2 mag tick ps qs) (hp : AllN ps) (P : AllW B qs) : AllN qs := fun q hq => by
  obtain ⟨i, hi, rfl⟩ := List.getElem_of_mem hq
  have hl := h.1
  exact (h.2 i (by omega) hi).num (hp _ (List.getElem_mem (by omega))) (P _ hq)
theorem gp_num (p : GP) (hp : p.ok) : p.pd.num := by
  obtain ⟨⟨x0, x1⟩, ⟨y0, y1⟩, ⟨u0, u1⟩, ⟨v0, v1⟩, ⟨q0, q1⟩, ⟨m0, m1⟩⟩ := hp
  exact ⟨num_wd 3 _ (by omega) (by omega), num_wd 3 _ (by omega) (by omega), num_wd 3 _ (by omega) (by omega), num_wd 3 _ (by omega) (by omega), num_wd 1 _ (by omega) (by omega), num_wd 2 _ (by omega) (by omega)⟩
theorem BTold.num {W H : Nat} {F1 F2 : List Nat} {mag tick : Nat} {gs : List PD} {L : Nat → List PD} {Bd : Nat → Rat} {Q : List PD} (T : BTold W H F1 F2 mag tick gs L Bd Q) (hg : AllN gs) : (∀ k, k ≤ 5 → AllN (L k)) ∧ AllN Q := by
  have h0 : AllN (L 0) := by rw [T.l0]; exact hg
  have h1 := (T.leap 0 (by omega)).num h0 (T.all 1 (by omega))
  have h2 := (T.leap 1 (by omega)).num h1 (T.all 2 (by omega))
  have h3 := (T.leap 2 (by omega)).num h2 (T.all 3 (by omega))
  have h4 := (T.leap 3 (by omega)).num h3 (T.all 4 (by omega))
  have h5 := (T.leap 4 (by omega)).num h4 (T.all 5 (by omega))
  refine ⟨fun k hk => ?_, T.back.num h1 T.qall⟩
  have hs : k = 0 ∨ k = 1 ∨ k = 2 ∨ k = 3 ∨ k = 4 ∨ k = 5 := by omega
  rcases hs with rfl | rfl | rfl | rfl | rfl | rfl <;> assumption

/-- All that the law's round wants of one particle: p, behind the leap p', led back to q. -/
structure Elem (W H : Nat) (F1 F2 : List Nat) (mag tick : Nat) (p p' q : PD) (a b L1 D1 D : Nat) : Prop where
  pv : PNm p.a p.b p.c p.d p.q p.m
  pv' : PNm p'.a p'.b p'.c p'.d p'.q p'.m
  qv : PNm q.a q.b q.c q.d q.q q.m
  leap : LeapW W H F1 F2 mag tick p p'
  back : BackW W H F1 F2 mag tick p' q
  pn' : p'.num
  qn : q.num
  near : NearW W H p q a b L1 D1 D
theorem BTold.elem {W H : Nat} {F1 F2 : List Nat} {mag tick : Nat} {gs : List PD} {L : Nat → List PD} {Bd : Nat → Rat} {Q : List PD} (T : BTold W H F1 F2 mag tick gs L Bd Q) (hg : AllN gs) (i : Nat) (hi : i < gs.length) : ∃ p p' q a b L1 D1 D, Elem W H F1 F2 mag tick p p' q a b L1 D1 D ∧ (∀ j u, j < 4 → p.cells[j]? = some u → (psCells (L 0))[i * 4 + j]? = some u) ∧ (∀ j u, j < 4 → p'.cells[j]? = some u → (psCells (L 1))[i * 4 + j]? = some u) ∧ (∀ j u, j < 4 → q.cells[j]? = some u → (psCells Q)[i * 4 + j]? = some u) := by
  have i0 : i < (L 0).length := by rw [T.len 0 (by omega)]; exact hi
  have i1 : i < (L 1).length := by rw [T.len 1 (by omega)]; exact hi
  have iq : i < Q.length := by rw [T.qlen]; exact hi
  have nums := T.num hg
  have e0 : (L 0)[i] = gs[i] := by
    have := T.l0
    simp only [this]
  obtain ⟨a, b, L1, D1, D, hN⟩ := T.near i hi iq
  rw [← e0] at hN
  have hl : LeapW W H F1 F2 mag tick (L 0)[i] (L 1)[i] := (T.leap 0 (by omega)).2 i i0 i1
  refine ⟨(L 0)[i], (L 1)[i], Q[i], a, b, L1, D1, D, ⟨(T.all 0 (by omega) _ (List.getElem_mem i0)).pnm, (T.all 1 (by omega) _ (List.getElem_mem i1)).pnm, (T.qall _ (List.getElem_mem iq)).pnm, hl, T.back.2 i i1 iq, nums.1 1 (by omega) _ (List.getElem_mem i1), nums.2 _ (List.getElem_mem iq), hN⟩, ?_, ?_, ?_⟩
  · intro j u hj hu; rw [psCells_at _ i i0 j hj]; exact hu
  · intro j u hj hu; rw [psCells_at _ i i1 j hj]; exact hu
  · intro j u hj hu; rw [psCells_at _ i iq j hj]; exact hu
theorem own_elem {w : World} {B N c i : Nat} {A : Option Addr} {xs : List Value} (h : w.ownsRow B 41 4 (.slice A N c) N xs) (hi : i < N) (p : PD) (hx : ∀ j u, j < 4 → p.cells[j]? = some u → xs[i * 4 + j]? = some u) : ∃ g, A = some ⟨g, 0, none⟩ ∧ g < w.heap.size ∧ w.cell? ⟨g, i * 4, none⟩ = some (.complex .f32 p.a p.b) ∧ w.cell? ⟨g, i * 4 + 1, none⟩ = some (.complex .f32 p.c p.d) ∧ w.cell? ⟨g, i * 4 + 2, none⟩ = some (.float .f32 p.q) ∧ w.cell? ⟨g, i * 4 + 3, none⟩ = some (.float .f32 p.m) := by
  have hf := h.lt
  rcases h.2 with ⟨e, hn⟩ | ⟨g, cap, cur, e, _⟩
  · omega
  · injection e with e1 e2 e3
    subst e1
    have hc : ∀ j u, j < 4 → p.cells[j]? = some u → w.cell? ⟨g, i * 4 + j, none⟩ = some u := fun j u hj hu => owns_cell h (hx j u hj hu)
    exact ⟨g, rfl, (hf g rfl).2, hc 0 _ (by omega) rfl, hc 1 _ (by omega) rfl, hc 2 _ (by omega) rfl, hc 3 _ (by omega) rfl⟩
theorem two_same (p q : PD) (hp : p.num) (hq : q.num) (B1 B2 : Nat) (b1 b2 : Nat) (w : World) (h1 : Has w b1 41 #[.complex .f32 p.a p.b, .complex .f32 p.c p.d, .float .f32 p.q, .float .f32 p.m, .complex .f32 q.a q.b, .complex .f32 q.c q.d, .float .f32 q.q, .float .f32 q.m]) (h2 : Has w b2 41 #[.complex .f32 p.a p.b, .complex .f32 p.c p.d, .float .f32 p.q, .float .f32 p.m, .complex .f32 q.a q.b, .complex .f32 q.c q.d, .float .f32 q.q, .float .f32 q.m]) :
    Calls Try.prog 26 #[.slice (some ⟨b1, 0, none⟩) 2 2, .slice (some ⟨b2, 0, none⟩) 2 2] w fun e w' => e = .returned (.bool true) ∧ Below w.heap.size w w' :=
  SameParticles_ok 0 0 _ _ [p, q] w ⟨rfl, .inr ⟨b1, 2, _, rfl, Nat.zero_le _, h1, Nat.le_refl _, by simp [maxLen], rfl, rfl⟩⟩ ⟨rfl, .inr ⟨b2, 2, _, rfl, Nat.zero_le _, h2, Nat.le_refl _, by simp [maxLen], rfl, rfl⟩⟩ (fun x hx => by
    rcases List.mem_cons.1 hx with rfl | hx
    · exact hp
    · rw [List.mem_singleton.1 hx]; exact hq) (by simp)
end Go.Proofs.Ytdonmboidpppmaa
