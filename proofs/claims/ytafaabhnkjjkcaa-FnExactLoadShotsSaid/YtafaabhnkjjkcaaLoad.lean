/- Contract: the program's loadCloud. -/
import Derived.Test.YtafaabhnkjjkcaaVCloud2
import Derived.Test.YtafaabhnkjjkcaaLawDesk
import Derived.Maps.AppendAt
import Derived.Deep.Onto
import Derived.Deep.AppendLies
import Derived.Deep.DeepCutAuto
import Derived.Deep.RegionWith
import Derived.Deep.RegionHeld3
namespace Go.Proofs.Ytafaabhnkjjkcaa
open Go.RowKit Go.Sort

/-- Behind a call that turned nothing of what was there: old cells read as they did. -/
theorem olds {W w1 : World} (hb : Below W.heap.size W w1) : (∀ b o, b < W.heap.size → w1.cell? ⟨b, o, none⟩ = W.cell? ⟨b, o, none⟩) ∧ (∀ b o, b < W.heap.size → w1.frozen? ⟨b, o, none⟩ = W.frozen? ⟨b, o, none⟩) :=
  ⟨fun b o h => hb.cell (p := ⟨b, o, none⟩) h, fun b o h => hb.frozen (p := ⟨b, o, none⟩) h⟩

theorem Has.drew1 {w : World} {g : Nat} {t : TypeId} {cs : Array Value} (h : Has w g t cs) : Has w.drew g t cs := h

def pdAt (s : ByteArray) (n : Nat) : PD := ⟨numAt s n, numAt s (n + 4), numAt s (n + 8), numAt s (n + 12), numAt s (n + 16), numAt s (n + 20)⟩
/-- k particles of a cloud that begins at a place. -/
def psAt (s : ByteArray) (at_ k : Nat) : List PD := (List.range k).map fun i => pdAt s (at_ + 15 + 24 * i)
def nAt (s : ByteArray) (at_ : Nat) : Nat := byteAt s (at_ + 14)
def markAt (s : ByteArray) (at_ : Nat) : Bool := byteAt s at_ == 67 && byteAt s (at_ + 1) == 76 && byteAt s (at_ + 2) == 68 && byteAt s (at_ + 3) == 49
/-- Does a whole valid cloud begin at a place? -/
def goodAt (s : ByteArray) (at_ : Nat) : Bool :=
  decide (at_ + 15 ≤ s.size) && markAt s at_ && decide (at_ + 15 + 24 * nAt s at_ ≤ s.size) && (psAt s at_ (nAt s at_)).all PD.ok &&
    okCloud (byteAt s (at_ + 4)) (byteAt s (at_ + 5)) (nAt s at_) (numAt s (at_ + 6)) (numAt s (at_ + 10))

theorem psAt_length (s : ByteArray) (a k : Nat) : (psAt s a k).length = k := by simp [psAt]
theorem psAt_succ (s : ByteArray) (a k : Nat) : psAt s a (k + 1) = psAt s a k ++ [pdAt s (a + 15 + 24 * k)] := by simp [psAt, List.range_succ]

/-- What is handed back where there is a cloud. -/
def LoadYes (s : ByteArray) (w : World) (e : Ending) (w' : World) : Prop :=
  ∃ a n c, e = .returned (.tuple #[cloudV (byteAt s 4) (byteAt s 5) (.slice a n c) (numAt s 6) (numAt s 10), .int .i64 (15 + 24 * nAt s 0 : Nat), .bool true]) ∧
    w'.ownsRow w.heap.size 25 4 (.slice a n c) (psAt s 0 (nAt s 0)).length (psCells (psAt s 0 (nAt s 0))) ∧ Below w.heap.size w w'
def LoadNo (w : World) (e : Ending) (w' : World) : Prop :=
  e = .returned (.tuple #[cloudV 0 0 (.slice none 0 0) 0 0, .int .i64 0, .bool false]) ∧ Below w.heap.size w w'

/-- Behind the mark: do the count of bytes, the particles and the rest fit? -/
def goodRest (s : ByteArray) : Prop := 15 + 24 * byteAt s 14 ≤ s.size ∧ (psAt s 0 (byteAt s 14)).all PD.ok = true ∧ okCloud (byteAt s 4) (byteAt s 5) (byteAt s 14) (numAt s 6) (numAt s 10) = true
def LoadOut (s : ByteArray) (w : World) (e : Ending) (w' : World) : Prop := (goodRest s → LoadYes s w e w') ∧ (¬ goodRest s → LoadNo w e w')

theorem psAt_all (s : ByteArray) (a n : Nat) (h : (psAt s a n).all PD.ok = true) (k : Nat) (hk : k < n) : (pdAt s (a + 15 + 24 * k)).ok = true := by
  rw [List.all_eq_true] at h
  exact h _ (List.mem_map.2 ⟨k, List.mem_range.2 hk, rfl⟩)

theorem four_new {w : World} {g : Nat} {t : TypeId} {x0 x1 x2 x3 : Value} (h : Has w g t #[x0, x1, x2, x3]) : ∀ j u, [x0, x1, x2, x3][j]? = some u → w.cell? ((⟨g, 0, none⟩ : Addr).add j) = some u := by
  intro j u hj
  rw [Addr.add_lit, Nat.zero_add, h.cells]
  simpa using hj
theorem psCells_succ (s : ByteArray) (a k : Nat) : psCells (psAt s a (k + 1)) = psCells (psAt s a k) ++ (pdAt s (a + 15 + 24 * k)).cells := by
  rw [psAt_succ]; simp [psCells]
theorem psAll_succ (s : ByteArray) (a k : Nat) (h : (psAt s a k).all PD.ok = true) (h2 : (pdAt s (a + 15 + 24 * k)).ok = true) : (psAt s a (k + 1)).all PD.ok = true := by
  rw [psAt_succ, List.all_append, h]; simp [h2]

theorem partOf_at (s : ByteArray) (p : Nat) (h : p + 24 ≤ s.size) : partOf (s.extract p (p + 24)) = if (pdAt s p).ok then #[.agg #[.complex .f32 (numAt s p) (numAt s (p + 4)), .complex .f32 (numAt s (p + 8)) (numAt s (p + 12)), .float .f32 (numAt s (p + 16)), .float .f32 (numAt s (p + 20))], .bool true] else #[.agg #[.complex .f32 0 0, .complex .f32 0 0, .float .f32 0, .float .f32 0], .bool false] := by
  have e := fun n hn => numAt_extract s p (p + 24) n h hn
  unfold partOf okAt pAt
  rw [e 0 (by omega), e (0 + 4) (by omega), e (0 + 8) (by omega), e (0 + 12) (by omega), e (0 + 16) (by omega), e (0 + 20) (by omega)]
  rfl

theorem infoParticle : (Try.prog.info? 25).map (fun i => (i.zero, i.size, i.bytes)) = some (some (.agg #[.complex .f32 0 0, .complex .f32 0 0, .float .f32 0, .float .f32 0]), 4, 24) := by kernel_rfl

set_option maxHeartbeats 1000000 in
set_option maxRecDepth 20000 in
theorem loadCloud_short (s : ByteArray) (w : World) (h : s.size < 15) :
    Calls Try.prog 47 #[.string s] w (LoadNo w) := by
  have hd : decide ((s.size : Int) < 15) = true := by simp; omega
  clear h
  go_enter Try.func47, Try.ntmps47
  go_wp2_with fail
  go_returns
  exact ⟨rfl, by go_grown⟩

set_option maxHeartbeats 1000000 in
set_option maxRecDepth 20000 in
theorem loadCloud_else (s : ByteArray) (w : World) (h : 15 ≤ s.size) (hm : Lib.hasPrefix s.data.toList [67, 76, 68, 49] = false) :
    Calls Try.prog 47 #[.string s] w (LoadNo w) := by
  have hd : decide ((s.size : Int) < 15) = false := by simp; omega
  have hp := fun w => Try.strings_HasPrefix s ⟨#[67, 76, 68, 49]⟩ w
  simp only [hm] at hp
  have HP := keep hp
  clear h hm hp
  go_enter Try.func47, Try.ntmps47
  go_wp2_with fail
  refine (HP.out _).mono ?_
  rintro e w' ⟨rfl, rfl⟩
  go_wp2_with fail
  go_returns
  exact ⟨rfl, by go_grown⟩

set_option maxHeartbeats 20000000 in
set_option maxRecDepth 20000 in
theorem loadCloud_rest (s : ByteArray) (w : World) (h : 15 ≤ s.size) (hS : s.size ≤ 2000000) (hm : Lib.hasPrefix s.data.toList [67, 76, 68, 49] = true) :
    Calls Try.prog 47 #[.string s] w (LoadOut s w) := by
  have hd : decide ((s.size : Int) < 15) = false := by simp; omega
  have hp := fun w => Try.strings_HasPrefix s ⟨#[67, 76, 68, 49]⟩ w
  simp only [hm] at hp
  have HP := keep hp
  have i4 := run_byteAt s 4 4 rfl (by omega)
  have i5 := run_byteAt s 5 5 rfl (by omega)
  have i14 := run_byteAt s 14 14 rfl (by omega)
  have l14 := byteAt_lt s 14
  have l4 := byteAt_lt s 4
  have l5 := byteAt_lt s 5
  have wr4 : IntKind.i64.wrap (byteAt s 4) = byteAt s 4 := wraps_i64 _ (by omega) (by omega)
  have wr5 : IntKind.i64.wrap (byteAt s 5) = byteAt s 5 := wraps_i64 _ (by omega) (by omega)
  have e1 : (s.extract 6 10).size = 4 := extract_size s 6 10 (by omega)
  have e2 : (s.extract 10 14).size = 4 := extract_size s 10 14 (by omega)
  have R1 := keep (fun w => readNumber_of _ e1 w)
  have R2 := keep (fun w => readNumber_of _ e2 w)
  have n1 := numAt_extract s 6 10 0 (by omega) (by omega)
  have n2 := numAt_extract s 10 14 0 (by omega) (by omega)
  have N1 := keep n1
  have N2 := keep n2
  have hs1 : (14 : Int) ≤ s.size := by omega
  have hs0 : (10 : Int) ≤ s.size := by omega
  have hs2 : (s.size : Int) ≤ 2000000 := by omega
  clear hm hp e1 e2 n1 n2 hS
  go_enter Try.func47, Try.ntmps47
  go_wp2_with fail
  refine (HP.out _).mono ?_
  rintro e w' ⟨rfl, rfl⟩
  go_upto_region 3 with fail
  go_cut [5] (fun s5 wx => ∃ g : Nat, s5 = .pointer (some ⟨g, 0, none⟩) ∧ Has wx g 34 #[.int .i64 (byteAt s 4), .int .i64 (byteAt s 5), .slice none 0 0, .float .f32 (numAt s 6), .float .f32 (numAt s 10)] ∧ Has wx w.heap.size 34 #[.int .i64 0, .int .i64 0, .slice none 0 0, .float .f32 0, .float .f32 0] ∧ w.heap.size < g ∧ Below w.heap.size w wx)
  case first =>
    refine wp_region_any (by kernel_rfl) ?_
    try (change wpAny _ _ _ _ _ _ _ (World.drew _))
    refine wpAny_take (i := 0) (v := ?_) rfl (by kernel_rfl) (by kernel_rfl) (by kernel_rfl) (fun _ _ _ h => h) (Or.inl ⟨by rfl, ?_⟩) ?_
    case refine_2 => intro w; go_simp; try with_reducible rfl
    try simp only [Act.put, List.setIfInBounds_toArray, List.set_cons_zero, List.set_cons_succ]
    refine wpAny_take (i := 1) (v := ?_) rfl (by kernel_rfl) (by kernel_rfl) (by kernel_rfl) (fun _ _ _ h => h) (Or.inl ⟨by rfl, ?_⟩) ?_
    case refine_2 => intro w; go_simp; try with_reducible rfl
    try simp only [Act.put, List.setIfInBounds_toArray, List.set_cons_zero, List.set_cons_succ]
    refine wpAny_take (i := 2) (v := ?_) rfl (by kernel_rfl) (by kernel_rfl) (by kernel_rfl) (fun _ _ _ h => h) (Or.inl ⟨by rfl, ?_⟩) ?_
    case refine_2 => intro w; go_simp; try with_reducible rfl
    try simp only [Act.put, List.setIfInBounds_toArray, List.set_cons_zero, List.set_cons_succ]
    refine wpAny_take (i := 3) (v := ?_) rfl (by kernel_rfl) (by kernel_rfl) (by kernel_rfl) (fun _ _ _ h => h) (Or.inl ⟨by rfl, ?_⟩) ?_
    case refine_2 => intro w; go_simp; try with_reducible rfl
    try simp only [Act.put, List.setIfInBounds_toArray, List.set_cons_zero, List.set_cons_succ]
    refine wpAny_take (i := 4) (v := ?_) rfl (by kernel_rfl) (by kernel_rfl) (by kernel_rfl) (fun _ _ _ h => h) (Or.inl ⟨by rfl, ?_⟩) ?_
    case refine_2 => intro w; go_simp; try with_reducible rfl
    try simp only [Act.put, List.setIfInBounds_toArray, List.set_cons_zero, List.set_cons_succ]
    refine wpAny_take (i := 5) (v := ?_) rfl (by kernel_rfl) (by kernel_rfl) (by kernel_rfl) (fun _ _ _ h => h) (Or.inl ⟨by rfl, ?_⟩) ?_
    case refine_2 => intro w; go_simp; try with_reducible rfl
    try simp only [Act.put, List.setIfInBounds_toArray, List.set_cons_zero, List.set_cons_succ]
    refine wpAny_take (i := 6) (v := ?_) rfl (by kernel_rfl) (by kernel_rfl) (by kernel_rfl) (fun _ _ _ h => h) (Or.inl ⟨by rfl, ?_⟩) ?_
    case refine_2 => intro w; go_simp; try with_reducible rfl
    try simp only [Act.put, List.setIfInBounds_toArray, List.set_cons_zero, List.set_cons_succ]
    refine wpAny_take (i := 7) (v := ?_) rfl (by kernel_rfl) (by kernel_rfl) (by kernel_rfl) (fun _ _ _ h => h) (Or.inl ⟨by rfl, ?_⟩) ?_
    case refine_2 => intro w; go_simp; try with_reducible rfl
    try simp only [Act.put, List.setIfInBounds_toArray, List.set_cons_zero, List.set_cons_succ]
    refine wpAny_take (i := 8) (v := ?_) rfl (by kernel_rfl) (by kernel_rfl) (by kernel_rfl) (fun _ _ _ h => h) (Or.inl ⟨by rfl, ?_⟩) ?_
    case refine_2 => intro w; go_simp; try with_reducible rfl
    try simp only [Act.put, List.setIfInBounds_toArray, List.set_cons_zero, List.set_cons_succ]
    refine wpAny_take (i := 10) (v := ?_) rfl (by kernel_rfl) (by kernel_rfl) (by kernel_rfl) (fun _ _ _ h => h) (Or.inl ⟨by rfl, ?_⟩) ?_
    case refine_2 => intro w; go_simp; try with_reducible rfl
    try simp only [Act.put, List.setIfInBounds_toArray, List.set_cons_zero, List.set_cons_succ]
    refine wpAny_take (i := 11) (v := ?_) rfl (by kernel_rfl) (by kernel_rfl) (by kernel_rfl) (fun _ _ _ h => h) (Or.inl ⟨by rfl, ?_⟩) ?_
    case refine_2 => intro w; go_simp; try with_reducible rfl
    try simp only [Act.put, List.setIfInBounds_toArray, List.set_cons_zero, List.set_cons_succ]
    refine wpAny_ready (rs := [9, 14]) (by kernel_rfl) (by simp) ?_
    refine AllReady.cons rfl (fun K hK => ?_) ?_
    · go_simp
      go_wp2_with (go_at_call_of 37 (Value.string (s.extract 6 10)); refine (R1.out _).mono ?_; rw [N1.out]; rintro e w1 ⟨rfl, hb⟩; have B1 := keep hb; clear hb)
      (first | (refine hK _ _ ?_) | skip)
      try clear hK
      try simp only [Act.put, List.setIfInBounds_toArray, List.set_cons_zero, List.set_cons_succ]
      refine wpAny_ready (rs := [12, 14]) (by kernel_rfl) (by simp) ?_
      refine AllReady.cons rfl (fun K hK => ?_) ?_
      · go_simp
        go_wp2_with (go_at_call_of 37 (Value.string (s.extract 10 14)); refine (R2.out _).mono ?_; rw [N2.out]; rintro e w2 ⟨rfl, hb⟩; have B2 := keep hb; clear hb)
        (first | (refine hK _ _ ?_) | skip)
        try clear hK
        try simp only [Act.put, List.setIfInBounds_toArray, List.set_cons_zero, List.set_cons_succ]
        refine wpAny_take (i := 13) (v := ?_) rfl (by kernel_rfl) (by kernel_rfl) (by kernel_rfl) (fun _ _ _ h => h) (Or.inl ⟨by rfl, ?_⟩) ?_
        case refine_2 => intro w; go_simp; try with_reducible rfl
        try simp only [Act.put, List.setIfInBounds_toArray, List.set_cons_zero, List.set_cons_succ]
        refine wpAny_ready (rs := [14]) (by kernel_rfl) (by simp) ?_
        refine AllReady.cons rfl (fun K hK => ?_) ?_
        · go_simp
          (first | (go_wp2_with fail) | skip)
          (first | (refine hK _ _ ?_) | skip)
          try clear hK
          try simp only [Act.put, List.setIfInBounds_toArray, List.set_cons_zero, List.set_cons_succ]
          refine wpAny_ready (rs := [15]) (by kernel_rfl) (by simp) ?_
          refine AllReady.cons rfl (fun K hK => ?_) ?_
          · go_simp
            (first | (go_wp2_with fail) | skip)
            (first | (refine hK _ _ ?_) | skip)
            try clear hK
            try simp only [Act.put, List.setIfInBounds_toArray, List.set_cons_zero, List.set_cons_succ]
            refine wpAny_done (by kernel_rfl) ?_ _
            have h1 := B1.out.size
            change (World.alloc _ _).heap.size ≤ _ at h1
            simp only [World.size_alloc] at h1
            have h2 := B2.out.size
            have q := (((Has.drew1 (Has.made w 34 #[.int .i64 0, .int .i64 0, .slice none 0 0, .float .f32 0, .float .f32 0])).after B1.out).after B2.out)
            have g0 : Below w.heap.size w (w.alloc (.cells #[.int .i64 0, .int .i64 0, .slice none 0 0, .float .f32 0, .float .f32 0] 34)).drew := ((Below.refl _ w).alloc (Nat.le_refl _) _).drew
            have g1 := g0.trans (B1.out.mono (by show w.heap.size ≤ (w.alloc _).heap.size; simp))
            have g2 := g1.trans (B2.out.mono (by omega))
            have q2 := Has.made w2 34 #[.int .i64 (byteAt s 4), .int .i64 (byteAt s 5), .slice none 0 0, .float .f32 (numAt s 6), .float .f32 (numAt s 10)]
            go_wp2_with fail
            go_meet
            exact ⟨w2.heap.size, rfl, q2, q.beside _, by omega, g2.alloc (by omega) _⟩
          · exact AllReady.nil
        · exact AllReady.nil
      refine AllReady.cons rfl (fun K hK => ?_) AllReady.nil
      go_simp
      (first | (go_wp2_with fail) | skip)
      (first | (refine hK _ _ ?_) | skip)
      try clear hK
      try simp only [Act.put, List.setIfInBounds_toArray, List.set_cons_zero, List.set_cons_succ]
      refine wpAny_ready (rs := [12]) (by kernel_rfl) (by simp) ?_
      refine AllReady.cons rfl (fun K hK => ?_) AllReady.nil
      go_simp
      go_wp2_with (go_at_call_of 37 (Value.string (s.extract 10 14)); refine (R2.out _).mono ?_; rw [N2.out]; rintro e w2 ⟨rfl, hb⟩; have p5 := (Has.made _ _ _).after hb; have c5 := p5.cells; have f5 := p5.free; (try simp only [World.size_alloc] at c5 f5); have B2 := keep hb; clear hb)
      (first | (refine hK _ _ ?_) | skip)
      try clear hK
      try simp only [Act.put, List.setIfInBounds_toArray, List.set_cons_zero, List.set_cons_succ]
      refine wpAny_take (i := 13) (v := ?_) rfl (by kernel_rfl) (by kernel_rfl) (by kernel_rfl) (fun _ _ _ h => h) (Or.inl ⟨by rfl, ?_⟩) ?_
      case refine_2 => intro w; go_simp; try with_reducible rfl
      try simp only [Act.put, List.setIfInBounds_toArray, List.set_cons_zero, List.set_cons_succ]
      refine wpAny_ready (rs := [15]) (by kernel_rfl) (by simp) ?_
      refine AllReady.cons rfl (fun K hK => ?_) AllReady.nil
      go_simp
      (first | (go_wp2_with fail) | skip)
      (first | (refine hK _ _ ?_) | skip)
      try clear hK
      try simp only [Act.put, List.setIfInBounds_toArray, List.set_cons_zero, List.set_cons_succ]
      refine wpAny_done (by kernel_rfl) ?_ _
      have h1 := B1.out.size
      change (World.alloc _ _).heap.size ≤ _ at h1
      simp only [World.size_alloc] at h1
      have h2 := B2.out.size
      simp only [World.size_alloc] at h2
      have q := (((Has.drew1 (Has.made w 34 #[.int .i64 0, .int .i64 0, .slice none 0 0, .float .f32 0, .float .f32 0])).after B1.out).beside _).after B2.out
      have g0 : Below w.heap.size w (w.alloc (.cells #[.int .i64 0, .int .i64 0, .slice none 0 0, .float .f32 0, .float .f32 0] 34)).drew := ((Below.refl _ w).alloc (Nat.le_refl _) _).drew
      have g1 := g0.trans (B1.out.mono (by show w.heap.size ≤ (w.alloc _).heap.size; simp))
      have g2 := (g1.alloc (by omega) _).trans (B2.out.mono (by simp; omega))
      have q2 := (((((p5.written 0 (.int .i64 (byteAt s 4))).written 1 (.int .i64 (byteAt s 5))).written 2 (.slice none 0 0)).written 3 (.float .f32 (numAt s 6))).written 4 (.float .f32 (numAt s 10)))
      go_wp2_with fail
      go_meet
      exact ⟨w1.heap.size, rfl, q2, (((((q.elsewhere (by show w.heap.size ≠ w1.heap.size; omega) _).elsewhere (by show w.heap.size ≠ w1.heap.size; omega) _).elsewhere (by show w.heap.size ≠ w1.heap.size; omega) _).elsewhere (by show w.heap.size ≠ w1.heap.size; omega) _).elsewhere (by show w.heap.size ≠ w1.heap.size; omega) _), by omega, (((((g2.setCell (by show w.heap.size ≤ w1.heap.size; omega) _).setCell (by show w.heap.size ≤ w1.heap.size; omega) _).setCell (by show w.heap.size ≤ w1.heap.size; omega) _).setCell (by show w.heap.size ≤ w1.heap.size; omega) _).setCell (by show w.heap.size ≤ w1.heap.size; omega) _)⟩
    refine AllReady.cons rfl (fun K hK => ?_) AllReady.nil
    go_simp
    (first | (go_wp2_with fail) | skip)
    (first | (refine hK _ _ ?_) | skip)
    try clear hK
    try simp only [Act.put, List.setIfInBounds_toArray, List.set_cons_zero, List.set_cons_succ]
    refine wpAny_ready (rs := [9]) (by kernel_rfl) (by simp) ?_
    refine AllReady.cons rfl (fun K hK => ?_) AllReady.nil
    go_simp
    go_wp2_with (go_at_call_of 37 (Value.string (s.extract 6 10)); refine (R1.out _).mono ?_; rw [N1.out]; rintro e w1 ⟨rfl, hb⟩; have p5 := (Has.drew1 (Has.made _ _ _)).after hb; have c5 := p5.cells; have f5 := p5.free; (try simp only [World.size_alloc] at c5 f5); have B1 := keep hb; clear hb)
    (first | (refine hK _ _ ?_) | skip)
    try clear hK
    try simp only [Act.put, List.setIfInBounds_toArray, List.set_cons_zero, List.set_cons_succ]
    refine wpAny_ready (rs := [12]) (by kernel_rfl) (by simp) ?_
    refine AllReady.cons rfl (fun K hK => ?_) AllReady.nil
    go_simp
    go_wp2_with (go_at_call_of 37 (Value.string (s.extract 10 14)); refine (R2.out _).mono ?_; rw [N2.out]; rintro e w2 ⟨rfl, hb⟩; have p5 := p5.after hb; have c5 := p5.cells; have f5 := p5.free; (try simp only [World.size_alloc] at c5 f5); have B2 := keep hb; clear hb)
    (first | (refine hK _ _ ?_) | skip)
    try clear hK
    try simp only [Act.put, List.setIfInBounds_toArray, List.set_cons_zero, List.set_cons_succ]
    refine wpAny_take (i := 13) (v := ?_) rfl (by kernel_rfl) (by kernel_rfl) (by kernel_rfl) (fun _ _ _ h => h) (Or.inl ⟨by rfl, ?_⟩) ?_
    case refine_2 => intro w; go_simp; try with_reducible rfl
    try simp only [Act.put, List.setIfInBounds_toArray, List.set_cons_zero, List.set_cons_succ]
    refine wpAny_ready (rs := [15]) (by kernel_rfl) (by simp) ?_
    refine AllReady.cons rfl (fun K hK => ?_) AllReady.nil
    go_simp
    (first | (go_wp2_with fail) | skip)
    (first | (refine hK _ _ ?_) | skip)
    try clear hK
    try simp only [Act.put, List.setIfInBounds_toArray, List.set_cons_zero, List.set_cons_succ]
    refine wpAny_done (by kernel_rfl) ?_ _
    have h1 := B1.out.size
    change (World.alloc _ _).heap.size ≤ _ at h1
    simp only [World.size_alloc] at h1
    have h2 := B2.out.size
    have q := ((Has.drew1 ((Has.made w 34 #[.int .i64 0, .int .i64 0, .slice none 0 0, .float .f32 0, .float .f32 0]).beside _)).after B1.out).after B2.out
    have g0 : Below w.heap.size w ((w.alloc (.cells #[.int .i64 0, .int .i64 0, .slice none 0 0, .float .f32 0, .float .f32 0] 34)).alloc (.cells #[.int .i64 0, .int .i64 0, .slice none 0 0, .float .f32 0, .float .f32 0] 34)).drew := (((Below.refl _ w).alloc (Nat.le_refl _) _).alloc (by simp) _).drew
    have g1 := g0.trans (B1.out.mono (by show w.heap.size ≤ ((w.alloc _).alloc _).heap.size; simp; omega))
    have g2 := g1.trans (B2.out.mono (by omega))
    simp only [World.size_alloc] at p5
    have q2 := (((((p5.written 0 (.int .i64 (byteAt s 4))).written 1 (.int .i64 (byteAt s 5))).written 2 (.slice none 0 0)).written 3 (.float .f32 (numAt s 6))).written 4 (.float .f32 (numAt s 10)))
    go_wp2_with fail
    go_meet
    exact ⟨w.heap.size + 1, rfl, q2, (((((q.elsewhere (by show w.heap.size ≠ w.heap.size + 1; omega) _).elsewhere (by show w.heap.size ≠ w.heap.size + 1; omega) _).elsewhere (by show w.heap.size ≠ w.heap.size + 1; omega) _).elsewhere (by show w.heap.size ≠ w.heap.size + 1; omega) _).elsewhere (by show w.heap.size ≠ w.heap.size + 1; omega) _), by omega, (((((g2.setCell (by show w.heap.size ≤ w.heap.size + 1; omega) _).setCell (by show w.heap.size ≤ w.heap.size + 1; omega) _).setCell (by show w.heap.size ≤ w.heap.size + 1; omega) _).setCell (by show w.heap.size ≤ w.heap.size + 1; omega) _).setCell (by show w.heap.size ≤ w.heap.size + 1; omega) _)⟩
  case rest =>
    obtain ⟨g, rfl, q5, q2, hg, hb⟩ := hcut
    have c2 := q2.cells
    have f2 := q2.free
    clear HP R1 R2 N1 N2 i4 i5 wr4 wr5
    by_cases hsz : 15 + 24 * byteAt s 14 ≤ s.size
    case neg =>
      have hlt : decide ((s.size : Int) < 15 + 24 * (byteAt s 14 : Int)) = true := by simp; omega
      go_wp2_with fail
      have q := (((((q2.written 0 (.int .i64 0)).written 1 (.int .i64 0)).written 2 (.slice none 0 0)).written 3 (.float .f32 0)).written 4 (.float .f32 0))
      have c := q.cells
      refine bodyPost_ret (by simp [results, Try.results47, go_sem, c]; rfl) rfl ⟨fun h => absurd h.1 hsz, fun _ => ⟨rfl, (((((hb.setCell (Nat.le_refl _) _).setCell (Nat.le_refl _) _).setCell (Nat.le_refl _) _).setCell (Nat.le_refl _) _).setCell (Nat.le_refl _) _)⟩⟩
    case pos =>
      have hlt : decide ((s.size : Int) < 15 + 24 * (byteAt s 14 : Int)) = false := by simp; omega
      go_wp2_with fail
      clear hlt c2 f2 i14
      go_loopw [7] (fun r wr => ∃ (k p : Nat) (a : Option Addr) (n c : Nat), Kept (k ≤ byteAt s 14) ∧ Kept (p = 15 + 24 * k) ∧ p < 10000 ∧ r = .int .i64 p ∧ Has wr g 34 #[.int .i64 (byteAt s 4), .int .i64 (byteAt s 5), .slice a n c, .float .f32 (numAt s 6), .float .f32 (numAt s 10)] ∧ Has wr w.heap.size 34 #[.int .i64 0, .int .i64 0, .slice none 0 0, .float .f32 0, .float .f32 0] ∧ Kept (wr.ownsRow (g + 1) 25 4 (.slice a n c) k (psCells (psAt s 0 k))) ∧ Kept ((psAt s 0 k).all PD.ok = true) ∧ Below w.heap.size w wr) (fun r _ => 15 + 24 * byteAt s 14 - (intOf r).toNat)
      case atStart => exact ⟨0, 15, none, 0, 0, keep (Nat.zero_le _), keep rfl, by omega, rfl, q5, q2, keep (World.ownsRow_nil _ _ _ _), keep rfl, hb⟩
      case round =>
        obtain ⟨k, p, a, n, c, hk, hp, hpb, rfl, h5, h2, ho, hall, hbr⟩ := hrel
        by_cases hlk : k < byteAt s 14
        case pos =>
          have hpe := hp.out
          have hin : p + 24 ≤ s.size := by omega
          have hi1 : (p : Int) < 15 + 24 * (byteAt s 14 : Int) := by omega
          have hi2 : (p : Int) + 24 ≤ s.size := by omega
          have Hc := keep (fun w => ParticleOf_24 (s.extract p (p + 24)) w (by rw [extract_size s p (p + 24) hin]; omega))
          have hpart := partOf_at s p hin
          have Hlk := keep hlk
          have Hin := keep hin
          clear hpe hin hlk hsz
          cases hok : (pdAt s p).ok
          case false =>
            rw [hok] at hpart
            have Hpart := keep hpart
            have Hok := keep hok
            clear hok hpart
            go_wp2_with (go_at_call 10; refine (Hc.out _).mono ?_; rintro e w' ⟨rfl, hb2⟩; rw [Hpart.out]; simp only [Bool.false_eq_true, if_false]; have p2 := h2.after hb2; have c2 := p2.cells; have f2 := p2.free; have z2 := p2.in_heap)
            have hs1 := hbr.size
            have hs2 := hb2.size
            have hb3 := hbr.trans (hb2.mono hs1)
            have q := Has.beside ((((((p2.written 0 (.int .i64 0)).written 1 (.int .i64 0)).written 2 (.slice none 0 0)).written 3 (.float .f32 0)).written 4 (.float .f32 0))) (.cells #[.complex .f32 0 0, .complex .f32 0 0, .float .f32 0, .float .f32 0] 25)
            have c := q.cells
            refine bodyPost_ret (by simp [results, Try.results47, go_sem, c]; rfl) rfl ⟨fun h => ?_, fun _ => ⟨rfl, ((((((hb3.setCell (Nat.le_refl _) _).setCell (Nat.le_refl _) _).setCell (Nat.le_refl _) _).setCell (Nat.le_refl _) _).setCell (Nat.le_refl _) _).alloc (by simp; omega) _)⟩⟩
            have h' := psAt_all s 0 _ h.2.1 k Hlk.out
            rw [show 0 + 15 + 24 * k = p from by have := hp.out; omega, Hok.out] at h'
            cases h'
          case true =>
            rw [hok] at hpart
            have Hpart := keep hpart
            have Hok := keep hok
            clear hok hpart
            obtain ⟨i0, hi, hz0, hz1, hz2⟩ := info_parts infoParticle
            have HI := keep hi
            have HZ0 := keep hz0
            have HZ1 := keep hz1
            have HZ2 := keep hz2
            clear hi hz0 hz1 hz2
            have hkb : k < 256 := by have := Hlk.out; omega
            go_wp2_with (first
              | (go_at_call 10; refine (Hc.out _).mono ?_; rintro e w' ⟨rfl, hb2⟩; rw [Hpart.out]; simp only [if_true]; have p2 := h2.after hb2; have p5 := h5.after hb2; have c5 := p5.cells; have f5 := p5.free; have z5 := p5.in_heap; have o2 := owns_below ho.out hb2; have H2 := keep p2; have H5 := keep p5; have HB2 := keep hb2; have O2 := keep o2; clear p2 p5 hb2 o2)
              | (at_builtin; go_loud (refine wpList_append_own_at _ rfl _ _ 32 rfl (g + 1) 25 i0 _ 4 24 Try.underlying32 HI.out HZ0.out HZ1.out HZ2.out rfl (by decide) (.slice a n c) k _ rfl ((O2.out.alloc _).alloc _) ⟨w'.heap.size + 1, 0, none⟩ 1 1 (pdAt s p).cells rfl rfl ?c1 ?c2 ?c3 ?c4 ?c5 ?_)))
            case c1 =>
              have r := Has.made (w'.alloc (.cells #[.complex .f32 (numAt s p) (numAt s (p + 4)), .complex .f32 (numAt s (p + 8)) (numAt s (p + 12)), .float .f32 (numAt s (p + 16)), .float .f32 (numAt s (p + 20))] 25)) 25 #[.complex .f32 (numAt s p) (numAt s (p + 4)), .complex .f32 (numAt s (p + 8)) (numAt s (p + 12)), .float .f32 (numAt s (p + 16)), .float .f32 (numAt s (p + 20))]
              rw [World.size_alloc] at r
              intro j u hj
              first | exact four_new r j u hj | exact hj
            case c2 =>
              intro u hu
              simp only [PD.cells, pdAt, List.mem_cons, List.not_mem_nil, or_false] at hu
              rcases hu with rfl | rfl | rfl | rfl <;> rfl
            case c3 => unfold maxLen; omega
            case c4 => omega
            case c5 => first | omega | (simp only [World.size_alloc]; omega)
            intro v' w4 hown' hgrow _ _
            obtain ⟨g', cap', rfl, hB', hlt'⟩ := hown'.form (by omega)
            have hL := ho.out.lt
            have hne : ∀ b, b ≤ g → (Value.slice a n c).ownBlock ≠ some b := fun b hb1 e => by have := hL b e; omega
            have s1 := hbr.size
            have s2 := HB2.out.size
            have p5 := Has.grown ((H5.out.beside _).beside _) hgrow (hne g (Nat.le_refl _))
            have p2 := Has.grown ((H2.out.beside _).beside _) hgrow (hne _ (by omega))
            have b4 := (((hbr.trans (HB2.out.mono s1)).alloc (by omega) _).alloc (by simp; omega) _).grown hgrow (by simp; omega) (fun b e => by have := hL b e; omega)
            have c5 := p5.cells
            have f5 := p5.free
            have P5 := keep p5
            have P2 := keep p2
            have B4 := keep b4
            have OW := keep hown'
            clear hown' hgrow p5 p2 b4 hL hne h5 h2
            go_wp2_with fail
            go_roundw
            case rel =>
              have e0 := hp.out
              have e1 := Hlk.out
              have e2 := psCells_succ s 0 k
              have e3 := psAll_succ s 0 k hall.out
              rw [show 0 + 15 + 24 * k = p from by omega] at e2 e3
              exact ⟨k + 1, p + 24, _, _, _, keep (by omega), keep (by omega), by omega, by go_num, P5.out.written 2 _, P2.out.elsewhere (by show w.heap.size ≠ g; omega) _, keep (by rw [e2]; exact ownsRow_setCell_below OW.out (by show g < g + 1; omega) _), keep (e3 Hok.out), B4.out.setCell (by show w.heap.size ≤ g; omega) _⟩
            case measure => simp [intOf]; omega
        case neg =>
          obtain rfl : k = byteAt s 14 := by have := hk.out; omega
          have hpe := hp.out
          have hi1 : ¬ ((p : Int) < 15 + 24 * (byteAt s 14 : Int)) := by omega
          have c5 := h5.cells
          have V := ValidCloud_ok (g + 1) (.slice a n c) (psAt s 0 (byteAt s 14)) (byteAt s 4) (byteAt s 5) (numAt s 6) (numAt s 10) wr (by rw [psAt_length]; exact ho.out) hall.out
          rw [psAt_length] at V
          unfold cloudV at V
          clear hpe hlk
          cases hok : okCloud (byteAt s 4) (byteAt s 5) (byteAt s 14) (numAt s 6) (numAt s 10)
          case false =>
            rw [hok] at V
            have HV := keep V
            have Hok := keep hok
            clear V hok
            go_wp2_with (go_at_call 59; refine HV.out.mono ?_; rintro e w' ⟨rfl, hb2⟩; have p2 := h2.after hb2; have c2 := p2.cells; have f2 := p2.free)
            have hb3 := hbr.trans (hb2.mono hbr.size)
            have q := (((((p2.written 0 (.int .i64 0)).written 1 (.int .i64 0)).written 2 (.slice none 0 0)).written 3 (.float .f32 0)).written 4 (.float .f32 0))
            have c := q.cells
            refine bodyPost_ret (by simp [results, Try.results47, go_sem, c]; rfl) rfl ⟨fun h => ?_, fun _ => ⟨rfl, (((((hb3.setCell (Nat.le_refl _) _).setCell (Nat.le_refl _) _).setCell (Nat.le_refl _) _).setCell (Nat.le_refl _) _).setCell (Nat.le_refl _) _)⟩⟩
            have h' := h.2.2
            rw [Hok.out] at h'
            cases h'
          case true =>
            rw [hok] at V
            have HV := keep V
            have Hok := keep hok
            clear V hok
            go_wp2_with (go_at_call 59; refine HV.out.mono ?_; rintro e w' ⟨rfl, hb2⟩; have p2 := h2.after hb2; have c2 := p2.cells; have f2 := p2.free; have p5 := h5.after hb2; have c5 := p5.cells)
            have hb3 := hbr.trans (hb2.mono hbr.size)
            have q := (((((p2.written 0 (.int .i64 (byteAt s 4))).written 1 (.int .i64 (byteAt s 5))).written 2 (.slice a n c)).written 3 (.float .f32 (numAt s 6))).written 4 (.float .f32 (numAt s 10)))
            have qc := q.cells
            refine bodyPost_ret (by simp [results, Try.results47, go_sem, qc]; rfl) rfl ⟨fun _ => ?_, fun h => absurd ⟨hsz, hall.out, Hok.out⟩ h⟩
            have o3 := ownsRow_setCell_below (a := ⟨w.heap.size, 4, none⟩) (ownsRow_setCell_below (a := ⟨w.heap.size, 3, none⟩) (ownsRow_setCell_below (a := ⟨w.heap.size, 2, none⟩) (ownsRow_setCell_below (a := ⟨w.heap.size, 1, none⟩) (ownsRow_setCell_below (a := ⟨w.heap.size, 0, none⟩) (owns_below ho.out hb2) (by show w.heap.size < g + 1; omega) (.int .i64 (byteAt s 4))) (by show w.heap.size < g + 1; omega) (.int .i64 (byteAt s 5))) (by show w.heap.size < g + 1; omega) (.slice a n c)) (by show w.heap.size < g + 1; omega) (.float .f32 (numAt s 6))) (by show w.heap.size < g + 1; omega) (.float .f32 (numAt s 10))
            exact ⟨a, n, c, rfl, by rw [psAt_length]; exact o3.mono (by omega), (((((hb3.setCell (Nat.le_refl _) _).setCell (Nat.le_refl _) _).setCell (Nat.le_refl _) _).setCell (Nat.le_refl _) _).setCell (Nat.le_refl _) _)⟩
end Go.Proofs.Ytafaabhnkjjkcaa
