/- Contracts: a particle repeated twice; a particle split in two. Contracts: a particle split in two, and merged again. -/
import Derived.Test.YtnmdgbnophclnaaQh
import Derived.Test.YtnmdgbnophclnaaMe
import Derived.Test.YtnmdgbnophclnaaHg
namespace Go.Proofs.Ytnmdgbnophclnaa
open Go.RowKit Go.Sort Ieee
set_option linter.unusedSimpArgs false

/-- 'copy' of rows whose elements take more than one cell. -/
theorem run_copy_wide {P : Program} (w : World) (dT sT ty elem : TypeId) (sz : Nat) (g o dLen dCap : Nat) (a : Addr) (sLen sCap : Nat) (cur : Array Value) (t : TypeId) (cs : List Value)
    (hu : P.underlying dT = some (.slice elem)) (hs : (P.info? elem).map (·.size) = some sz)
    (hg : w.heap[g]? = some (.cells cur t (0, 0))) (hn : cs.length = Nat.min sLen dLen * sz)
    (hsrc : ∀ j v, cs[j]? = some v → w.cell? (a.add j) = some v) (hfit : o + cs.length ≤ cur.size) (h1 : ∀ v ∈ cs, v.oneCell' = true) :
    (Builtin.copy_ #[dT, sT] ty #[.slice (some ⟨g, o, none⟩) dLen dCap, .slice (some a) sLen sCap]).run P w =
      .ok (goInt (Nat.min sLen dLen)) (w.setRow g (cur.toList.take o ++ cs ++ cur.toList.drop (o + cs.length)).toArray) := by
  have hl := run_loadCells_list (P := P) w a cs hsrc
  have hst := run_storeCells_at P g o t cs 0 cur w hg (by simpa using hfit) h1
  cases hq : P.info? elem with
  | none => simp [hq] at hs
  | some i =>
    have hi : i.size = sz := by simpa [hq] using hs
    simp [Builtin.copy_, run_underlying hu, Builtin.lenOf, Builtin.firstCells, sizeOf, typeInfo, hq, hi, ← hn, hl, hst]

theorem wpList_copy_wide {P : Program} {w : World} {ops : Array Oper} {rest : List Oper} {o : Oper} {a : Act} {Q : Exit → Act → World → Prop} (hgd : o.guard = none) (d s : Operand) (dT sT : TypeId)
    (ho : o.op = .call { callee := .builtin .copy, args := #[d, s], argTypes := #[dT, sT] }) (elem : TypeId) (sz : Nat) (hu : P.underlying dT = some (.slice elem)) (hsz : (P.info? elem).map (·.size) = some sz)
    (g off dLen dCap : Nat) (ad : Addr) (sLen sCap : Nat) (hd : a.eval d = .slice (some ⟨g, off, none⟩) dLen dCap) (hs : a.eval s = .slice (some ad) sLen sCap)
    (cur : Array Value) (t : TypeId) (hg : w.heap[g]? = some (.cells cur t (0, 0))) (cs : List Value) (hn : cs.length = Nat.min sLen dLen * sz)
    (hsrc : ∀ j v, cs[j]? = some v → w.cell? (ad.add j) = some v) (hfit : off + cs.length ≤ cur.size) (h1 : ∀ v ∈ cs, v.oneCell' = true) (B : Nat) (w0 : World) (hb : Below B w0 w) (hBg : B ≤ g)
    (h : ∀ w', Hid (w'.heap[g]? = some (.cells (cur.toList.take off ++ cs ++ cur.toList.drop (off + cs.length)).toArray t (0, 0))) → Below B w0 w' → wpList P ops Q rest (a.put o.dst (goInt (Nat.min sLen dLen))) w') : wpList P ops Q (o :: rest) a w := by
  refine wpList_plain hgd fun K hK => ?_
  have hrun := run_copy_wide (P := P) w dT sT o.type elem sz g off dLen dCap ad sLen sCap cur t cs hu hsz hg hn hsrc hfit h1
  unfold Oper.wp
  simp [execOp, ho, resolve, invoke, builtin, hd, hs, hrun, Result.andThen]
  exact hK _ _ (h _ (show _ = _ by simpa using setRow_heap w g _ _ t _ hg) (below_setRow hb hBg _))

theorem step_copy_wide {P : Program} {ops : Array Oper} {o : Oper} {a : Act} {w : World} {K : Act → World → Prop} {Q : Exit → Act → World → Prop} {E : Prop} (hgd : o.guard = none) (d s : Operand) (dT sT : TypeId)
    (ho : o.op = .call { callee := .builtin .copy, args := #[d, s], argTypes := #[dT, sT] }) (elem : TypeId) (sz : Nat) (hu : P.underlying dT = some (.slice elem)) (hsz : (P.info? elem).map (·.size) = some sz)
    (g off dLen dCap : Nat) (ad : Addr) (sLen sCap : Nat) (hd : a.eval d = .slice (some ⟨g, off, none⟩) dLen dCap) (hs : a.eval s = .slice (some ad) sLen sCap)
    (cur : Array Value) (t : TypeId) (hg : w.heap[g]? = some (.cells cur t (0, 0))) (cs : List Value) (hn : cs.length = Nat.min sLen dLen * sz)
    (hsrc : ∀ j v, cs[j]? = some v → w.cell? (ad.add j) = some v) (hfit : off + cs.length ≤ cur.size) (h1 : ∀ v ∈ cs, v.oneCell' = true) (B : Nat) (w0 : World) (hb : Below B w0 w) (hBg : B ≤ g)
    (h : ∀ w', Hid (w'.heap[g]? = some (.cells (cur.toList.take off ++ cs ++ cur.toList.drop (off + cs.length)).toArray t (0, 0))) → Below B w0 w' → K (a.put o.dst (goInt (Nat.min sLen dLen))) w') :
    if Region.wanted o (yielded ops a.tmps) = true then Oper.wp P o a w K Q else E := by
  have hw : Region.wanted o (yielded ops a.tmps) = true := by simp [Region.wanted, hgd]
  rw [if_pos hw]
  have hrun := run_copy_wide (P := P) w dT sT o.type elem sz g off dLen dCap ad sLen sCap cur t cs hu hsz hg hn hsrc hfit h1
  unfold Oper.wp
  simp [execOp, ho, resolve, invoke, builtin, hd, hs, hrun, Result.andThen]
  exact h _ (show _ = _ by simpa using setRow_heap w g _ _ t _ hg) (below_setRow hb hBg _)

def zeroP : PD := ⟨0, 0, 0, 0, 0, 0⟩
theorem run_mkP2 (w : World) : (Instr.makeSlice 26 (.int .i64 2) (.int .i64 2)).run Try.prog w = .ok (.slice (some ⟨w.heap.size, 0, none⟩) 2 2) (w.alloc (.cells (psCells [zeroP, zeroP]).toArray 52)) := by
  obtain ⟨i0, hi0, hz0, hz1, hz2⟩ := info_parts infoParticle
  have h := run_makeSlice w 26 52 i0 _ Try.underlying26 hi0 hz0 .i64 .i64 2 2 (by omega) (Int.le_refl _) (by rw [hz1]; decide) (by rw [hz2]; decide) (by omega)
  rw [hz1] at h
  have e : madeCells (Value.agg #[Value.complex .f32 0 0, Value.complex .f32 0 0, Value.float .f32 0, Value.float .f32 0]).cells (Int.toNat 2 * 4) = (psCells [zeroP, zeroP]).toArray := by kernel_rfl
  rw [e] at h
  exact h
theorem size_particle : (Try.prog.info? 52).map (·.size) = some 4 := by kernel_rfl

set_option maxHeartbeats 4000000 in
set_option maxRecDepth 20000 in
theorem RepeatP_ok (p : PD) (b : Nat) (w : World) (hh : Has w b 52 (psCells [p]).toArray) :
    Calls Try.prog 73 #[.slice (some ⟨b, 0, none⟩) 1 1, .int .i64 2] w fun e w' => ∃ g : Nat, w.heap.size ≤ g ∧ e = .returned (.slice (some ⟨g, 0, none⟩) 2 2) ∧ Has w' g 52 (psCells [p, p]).toArray ∧ Below w.heap.size w w' := by
  have MU := keep (fun w => Mul_small 2 (by omega) w)
  have MK := keep run_mkP2
  have SZ := keep size_particle
  have lb := hh.in_heap
  have C1 : Kept (∀ j v, (psCells [p])[j]? = some v → w.cell? ((⟨b, 0, none⟩ : Addr).add j) = some v) := keep (fun j v hj => by
    rw [Addr.add_lit, Nat.zero_add, hh.cells j, List.getElem?_toArray]
    exact hj)
  have O1 := keep (psCells_one [p])
  clear hh
  go_enter Try.func73, Try.ntmps73
  go_wp2_with fail
  refine (MU.out _).mono ?_
  rintro e w' ⟨rfl, rfl⟩
  have mk := MK.out w'
  have R0 := keep (show (w'.alloc (.cells (psCells [zeroP, zeroP]).toArray 52)).heap[w'.heap.size]? = some (.cells (psCells [zeroP, zeroP]).toArray 52 (0, 0)) from Has.made w' 52 (psCells [zeroP, zeroP]).toArray)
  have B0 := keep ((Below.refl w'.heap.size w').alloc (Nat.le_refl _) (.cells (psCells [zeroP, zeroP]).toArray 52))
  have C2 : Kept (∀ j v, (psCells [p])[j]? = some v → (w'.alloc (.cells (psCells [zeroP, zeroP]).toArray 52)).cell? ((⟨b, 0, none⟩ : Addr).add j) = some v) := keep (fun j v hj => by
    have h1 := C1.out j v hj
    rw [Addr.add_lit] at h1 ⊢
    exact (B0.out.cell (p := ⟨b, 0 + j, none⟩) lb).trans h1)
  clear MU C1
  go_wp2_with (refine wpList_copy_wide rfl (.tmp 31) (.tmp 32) 26 26 rfl 52 4 Try.underlying26 SZ.out w'.heap.size 0 2 2 ⟨b, 0, none⟩ 1 1 rfl rfl (psCells [zeroP, zeroP]).toArray _ R0.out (psCells [p]) rfl C2.out (by show 0 + 4 ≤ 8; omega) O1.out w'.heap.size w' B0.out (Nat.le_refl _) ?_)
  intro w4 hg4 hb4
  have G4 : Kept (Has w4 w'.heap.size 52 (psCells [p, zeroP]).toArray) := keep hg4
  have B4 := keep hb4
  clear hg4 hb4 R0 B0 mk MK C2
  go_wp2_with fail
  go_loopw [8] (fun s wr => ∃ (m : Int) (q : PD), s = .int .i64 m ∧ Kept ((m = 1 ∧ q = zeroP) ∨ (m = 2 ∧ q = p)) ∧ Kept (Has wr w'.heap.size 52 (psCells [p, q]).toArray) ∧ Kept (Below w'.heap.size w' wr)) (fun s _ => 2 - (intOf s).toNat)
  case atStart => exact ⟨1, zeroP, rfl, keep (.inl ⟨rfl, rfl⟩), G4, B4⟩
  case round =>
    clear G4 B4
    obtain ⟨m, q, rfl, hm, hg, hb⟩ := hrel
    rcases hm.out with ⟨rfl, rfl⟩ | ⟨rfl, rfl⟩
    · have HG := keep (show (wr.drew).heap[w'.heap.size]? = some (.cells (psCells [p, zeroP]).toArray 52 (0, 0)) from hg.out)
      have HB := keep (Below.drew hb.out)
      have HP : Kept (∀ j u, (psCells [p])[j]? = some u → wr.drew.cell? ((⟨w'.heap.size, 0, none⟩ : Addr).add j) = some u) := keep (fun j u hj => by
        have hc : Has wr.drew w'.heap.size 52 (psCells [p, zeroP]).toArray := HG.out
        have hj4 : j < 4 := by
          obtain ⟨h1, _⟩ := List.getElem?_eq_some_iff.1 hj
          exact h1
        rw [Addr.add_lit, Nat.zero_add, hc.cells j]
        rw [List.getElem?_toArray]
        have e : psCells [p, zeroP] = psCells [p] ++ psCells [zeroP] := psCells_append [p] [zeroP]
        rw [e, List.getElem?_append_left (by exact hj4)]
        exact hj)
      clear hg hb
      have wm : IntKind.i64.wrap 2 = 2 := by decide
      go_wp2_with fail
      go_region_law (refine step_copy_wide rfl (.tmp 41) (.tmp 44) 26 26 rfl 52 4 Try.underlying26 SZ.out w'.heap.size 4 1 1 ⟨w'.heap.size, 0, none⟩ 1 2 (by simp [Act.eval, Act.put]) (by simp [Act.eval, Act.put]) (psCells [p, zeroP]).toArray _ HG.out (psCells [p]) rfl HP.out (by show 4 + 4 ≤ 8; omega) O1.out w'.heap.size w' HB.out (Nat.le_refl _) ?_; intro w5 hg5 hb5)
      have G5 : Kept (Has w5 w'.heap.size 52 (psCells [p, p]).toArray) := keep hg5
      have B5 := keep hb5
      clear hg5 hb5 HG HB HP
      go_simp
      go_wp2_with fail
      go_roundw
      case rel => exact ⟨2, p, rfl, keep (.inr ⟨rfl, rfl⟩), G5, B5⟩
      case measure => simp [intOf, wm]
    · have HG := keep hg.out
      clear hg
      go_wp2_with fail
      go_ret
      exact ⟨_, Nat.le_refl _, rfl, HG.out, hb.out⟩
end Go.Proofs.Ytnmdgbnophclnaa
namespace Go.Proofs.Ytnmdgbnophclnaa
open Go.RowKit Go.Sort Ieee
set_option linter.unusedSimpArgs false

def GP.halfD (p : GP) : PD := ⟨wd single 3 p.x, wd single 3 p.y, wd single 3 p.u, wd single 3 p.v, wd single 2 p.q, wd single 3 p.m⟩
theorem gtr_half (m : Int) (h1 : 1 ≤ m) (h2 : m ≤ 8) : (FloatKind.f32.format.order (wd single 3 m) 0 == some .gt) = true := by
  have e := order_wd (f := single) fit_single (k := 3) (a := m) (b := 0) (by decide) (by show m.natAbs < 16777216; omega) (by decide)
  rw [wd_zero] at e
  rw [show FloatKind.f32.format.order (wd single 3 m) 0 = single.order (wd single 3 m) 0 from rfl, e]
  have : compare m 0 = .gt := by rw [Int.compare_eq_gt]; omega
  rw [this]; rfl
theorem GP.half_ok {p : GP} (h : p.ok) : p.halfD.ok = true := by
  obtain ⟨h1, h2, h3, h4, h5, h6⟩ := h
  unfold PD.ok validP finC GP.halfD
  simp only
  rw [fin_wd 3 p.x (by omega) (by omega), fin_wd 3 p.y (by omega) (by omega), fin_wd 3 p.u (by omega) (by omega), fin_wd 3 p.v (by omega) (by omega), fin_wd 2 p.q (by omega) (by omega), fin_wd 3 p.m (by omega) (by omega), gtr_half p.m (by omega) (by omega)]
  rfl

set_option maxHeartbeats 4000000 in
set_option maxRecDepth 20000 in
theorem SplitParticle_ok (p : GP) (hp : p.ok) (w : World) : Calls Try.prog 29 #[p.agg, .int .i64 2] w fun e w' => ∃ g : Nat, w.heap.size ≤ g ∧ e = .returned (.tuple #[.slice (some ⟨g, 0, none⟩) 2 2, .bool true]) ∧ Has w' g 52 (psCells [p.halfD, p.halfD]).toArray ∧ Below w.heap.size w w' := by
  have VP := keep (fun w => GP.valid hp w)
  have WI := keep (fun w => within_any 2 1 16 w)
  have RE := keep (fun b w h => RepeatP_ok p.halfD b w h)
  have AQ := keep (fun B v w h => AreParticles_ok B v [p.halfD, p.halfD] w h (by simp [GP.half_ok hp]) (by show 2 ≤ 64; omega))
  obtain ⟨_, _, _, _, ⟨q0, q1⟩, ⟨m0, m1⟩⟩ := hp
  have f1 := frun (half_charge p.q q0 q1)
  have f2 := frun (half_mass p.m m0 m1)
  have e2 : floatOfInt .f32 2 = 1073741824 := by decide +kernel
  have S0 := keep (Has.made w 52 #[.complex .f32 (wd single 3 p.x) (wd single 3 p.y), .complex .f32 (wd single 3 p.u) (wd single 3 p.v), .float .f32 (wd single 1 p.q), .float .f32 (wd single 2 p.m)])
  have B0 := keep ((Below.refl w.heap.size w).alloc (Nat.le_refl _) (.cells #[.complex .f32 (wd single 3 p.x) (wd single 3 p.y), .complex .f32 (wd single 3 p.u) (wd single 3 p.v), .float .f32 (wd single 1 p.q), .float .f32 (wd single 2 p.m)] 52))
  clear q0 q1 m0 m1
  unfold GP.agg at *
  go_enter Try.func29, Try.ntmps29
  go_wp2_with fail
  refine (VP.out _).mono ?_
  rintro e w1 ⟨rfl, hb⟩
  have S1 := keep (S0.out.after hb)
  have B1 := keep (B0.out.trans (hb.mono B0.out.size))
  clear hb VP S0 B0
  have k0 := S1.out.cells 0
  have k1 := S1.out.cells 1
  have k2 := S1.out.cells 2
  have k3 := S1.out.cells 3
  have u2 := S1.out.free 2
  have u3 := S1.out.free 3
  have z1 := S1.out.in_heap
  have H2 := keep (((S1.out.written 2 (.float .f32 (wd single 2 p.q))).written 3 (.float .f32 (wd single 3 p.m))))
  have B2 := keep ((B1.out.setCell (p := ⟨w.heap.size, 2, none⟩) (Nat.le_refl _) (.float .f32 (wd single 2 p.q))).setCell (p := ⟨w.heap.size, 3, none⟩) (Nat.le_refl _) (.float .f32 (wd single 3 p.m)))
  have Z2 := keep z1
  clear S1 B1
  go_wp2_with fail
  refine (WI.out _).mono ?_
  rintro e w2 ⟨rfl, rfl⟩
  clear WI
  have d1 : decide ((1 : Int) ≤ 2) = true := by decide
  have d2 : decide ((2 : Int) ≤ 16) = true := by decide
  go_wp2_with fail
  have R1 : Kept (Has (((w2.setCell ⟨w.heap.size, 2, none⟩ (.float .f32 (wd single 2 p.q))).setCell ⟨w.heap.size, 3, none⟩ (.float .f32 (wd single 3 p.m))).alloc (.cells #[.complex .f32 (wd single 3 p.x) (wd single 3 p.y), .complex .f32 (wd single 3 p.u) (wd single 3 p.v), .float .f32 (wd single 2 p.q), .float .f32 (wd single 3 p.m)] 52)) w2.heap.size 52 (psCells [p.halfD]).toArray) := keep (by
    have h := Has.made ((w2.setCell ⟨w.heap.size, 2, none⟩ (.float .f32 (wd single 2 p.q))).setCell ⟨w.heap.size, 3, none⟩ (.float .f32 (wd single 3 p.m))) 52 #[.complex .f32 (wd single 3 p.x) (wd single 3 p.y), .complex .f32 (wd single 3 p.u) (wd single 3 p.v), .float .f32 (wd single 2 p.q), .float .f32 (wd single 3 p.m)]
    simp only [World.size_setCell] at h
    exact h)
  have B3 := keep (B2.out.alloc B2.out.size (.cells #[.complex .f32 (wd single 3 p.x) (wd single 3 p.y), .complex .f32 (wd single 3 p.u) (wd single 3 p.v), .float .f32 (wd single 2 p.q), .float .f32 (wd single 3 p.m)] 52))
  refine (RE.out _ _ R1.out).mono ?_
  rintro e w3 ⟨g, hgl, rfl, hg, hb⟩
  have lg : w.heap.size ≤ g := Nat.le_trans B3.out.size hgl
  have OW : Kept (w3.ownsRow w.heap.size 52 4 (.slice (some ⟨g, 0, none⟩) 2 2) [p.halfD, p.halfD].length (psCells [p.halfD, p.halfD])) := keep ⟨rfl, .inr ⟨g, 2, _, rfl, lg, hg, Nat.le_refl _, by simp [maxLen], rfl, rfl⟩⟩
  have HG := keep hg
  have B4 := keep (B3.out.trans (hb.mono B3.out.size))
  clear hg hb B2 B3 R1 RE k0 k1 k2 k3 u2 u3 z1 H2 Z2
  go_wp2_with fail
  refine (AQ.out _ _ _ OW.out).mono ?_
  rintro e w4 ⟨rfl, hb⟩
  have HG5 := keep (HG.out.after hb)
  have B5 := keep (B4.out.trans (hb.mono B4.out.size))
  clear hb AQ OW HG B4
  go_wp2_with fail
  go_ret2
  exact ⟨g, lg, rfl, HG5.out, B5.out⟩

theorem agg_half (p : GP) : Value.agg #[.complex .f32 (wd single 3 p.x) (wd single 3 p.y), .complex .f32 (wd single 3 p.u) (wd single 3 p.v), .float .f32 (wd single 2 p.q), .float .f32 (wd single 3 p.m)] = p.halfD.agg := rfl

set_option maxHeartbeats 1000000 in
theorem areTwo_half (p : GP) (hp : p.ok) (w : World) : Calls Try.prog 75 #[p.halfD.agg, p.halfD.agg] w fun e w' => e = .returned (.bool true) ∧ Below w.heap.size w w' := by
  have VP : ∀ w, Calls Try.prog 72 #[p.halfD.agg] w fun e w' => e = .returned (.bool true) ∧ Below w.heap.size w w' := fun w => by
    have h := ValidParticle_any p.halfD.a p.halfD.b p.halfD.c p.halfD.d p.halfD.q p.halfD.m w
    rw [show validP p.halfD.a p.halfD.b p.halfD.c p.halfD.d p.halfD.q p.halfD.m = true from GP.half_ok hp] at h
    exact h
  have VP := keep VP
  clear hp
  have B0 := keep (((Below.refl w.heap.size w).alloc (Nat.le_refl _) (.cells #[.complex .f32 p.halfD.a p.halfD.b, .complex .f32 p.halfD.c p.halfD.d, .float .f32 p.halfD.q, .float .f32 p.halfD.m] 52)).alloc (by simp) (.cells #[.complex .f32 p.halfD.a p.halfD.b, .complex .f32 p.halfD.c p.halfD.d, .float .f32 p.halfD.q, .float .f32 p.halfD.m] 52))
  have S1 : Kept (Has ((w.alloc (.cells #[.complex .f32 p.halfD.a p.halfD.b, .complex .f32 p.halfD.c p.halfD.d, .float .f32 p.halfD.q, .float .f32 p.halfD.m] 52)).alloc (.cells #[.complex .f32 p.halfD.a p.halfD.b, .complex .f32 p.halfD.c p.halfD.d, .float .f32 p.halfD.q, .float .f32 p.halfD.m] 52)) (w.heap.size + 1) 52 #[.complex .f32 p.halfD.a p.halfD.b, .complex .f32 p.halfD.c p.halfD.d, .float .f32 p.halfD.q, .float .f32 p.halfD.m]) := keep (has_at _ _ _ _ (by simp))
  generalize p.halfD = d at *
  unfold PD.agg at *
  go_enter Try.func75, Try.ntmps75
  go_wp2_with fail
  refine (VP.out _).mono ?_
  rintro e w1 ⟨rfl, hb⟩
  have s1 := S1.out.after hb
  have k0 := s1.cells 0
  have k1 := s1.cells 1
  have k2 := s1.cells 2
  have k3 := s1.cells 3
  have z1 := s1.in_heap
  have B1 := keep (B0.out.trans (hb.mono B0.out.size))
  clear hb s1 S1 B0
  go_wp2_with fail
  refine (VP.out _).mono ?_
  rintro e w2 ⟨rfl, hb⟩
  have B2 := keep (B1.out.trans (hb.mono B1.out.size))
  clear hb k0 k1 k2 k3
  go_wp2_with fail
  go_ret
  exact ⟨rfl, B2.out⟩
end Go.Proofs.Ytnmdgbnophclnaa
