/- Contract: the reference's cloud at a place of a text. -/
import Derived.Test.YtafaabhnkjjkcaaLoad

namespace Go.Proofs.Ytafaabhnkjjkcaa
open Go.RowKit Go.Sort

/-- What is handed back where there is a cloud, and where there is none. -/
def BeginYes (s : ByteArray) (p : Nat) (w : World) (e : Ending) (w' : World) : Prop :=
  ∃ a n c, e = .returned (.tuple #[cloudV (byteAt s (p + 4)) (byteAt s (p + 5)) (.slice a n c) (numAt s (p + 6)) (numAt s (p + 10)), .int .i64 (p + 15 + 24 * nAt s p : Nat), .bool true]) ∧
    w'.ownsRow w.heap.size 25 4 (.slice a n c) (psAt s p (nAt s p)).length (psCells (psAt s p (nAt s p))) ∧ Below w.heap.size w w'
def BeginNo (w : World) (e : Ending) (w' : World) : Prop :=
  ∃ (wd hg : Int) (a : Option Addr) (n c mg bk : Nat) (z : Int), e = .returned (.tuple #[cloudV wd hg (.slice a n c) mg bk, .int .i64 z, .bool false]) ∧ Below w.heap.size w w'
def BeginOut (s : ByteArray) (p : Nat) (w : World) (e : Ending) (w' : World) : Prop := (goodAt s p = true → BeginYes s p w e w') ∧ (goodAt s p = false → BeginNo w e w')

theorem own_ne {w : World} {B e size n g : Nat} {v : Value} {xs : List Value} {t : TypeId} {cs : Array Value} (h : w.ownsRow B e size v n xs) (hg : Has w g t cs) (hne : e ≠ t) : v.ownBlock ≠ some g := by
  rcases h.2 with ⟨rfl, _⟩ | ⟨g', cap, cur, rfl, _, hh, _⟩
  · simp [Value.ownBlock]
  · intro he
    have e' : g' = g := by simpa [Value.ownBlock] using he
    subst e'
    have h1 : w.heap[g']? = some (.cells cs t (0, 0)) := hg
    rw [hh] at h1
    injection h1 with h1
    injection h1 with _ h2
    exact hne h2
theorem own_set {w : World} {B e size n : Nat} {v : Value} {xs : List Value} (h : w.ownsRow B e size v n xs) {a : Addr} (hne : v.ownBlock ≠ some a.block) (u : Value) : (w.setCell a u).ownsRow B e size v n xs :=
  h.kept (row := some a.block) ⟨rfl, rfl, rfl, by simp, fun k _ hk => Below.heap_setCell w a u k (fun e => hk (by rw [e]))⟩ (.inr hne)

theorem keep5 (w : World) {g b : Nat} (h : b ≠ g) (i m : Nat) (v0 v1 v2 v3 v4 : Value) : ((((((w.setCell ⟨g, 0, none⟩ v0).setCell ⟨g, 1, none⟩ v1).setCell ⟨g, 2, none⟩ v2).setCell ⟨g, 3, none⟩ v3).setCell ⟨g, 4, none⟩ v4).drewN m).cell? ⟨b, i, none⟩ = w.cell? ⟨b, i, none⟩ := by
  have hn : ∀ j, (⟨g, j, none⟩ : Addr) ≠ ⟨b, i, none⟩ := fun j e => by injection e with e; exact h e.symm
  rw [World.cell?_drewN, World.cell?_setCell_other _ _ _ _ (hn 4), World.cell?_setCell_other _ _ _ _ (hn 3), World.cell?_setCell_other _ _ _ _ (hn 2), World.cell?_setCell_other _ _ _ _ (hn 1), World.cell?_setCell_other _ _ _ _ (hn 0)]

theorem l10Particle_at (s : ByteArray) (i : Int) (n : Nat) (hi : i = n) (w : World) (hs : s.size ≤ 1000000000000000) (h : n + 24 ≤ s.size) :
    Calls Try.prog 36 #[.string s, .int .i64 i] w fun e w' => e = .returned (.tuple #[.agg #[.complex .f32 (numAt s n) (numAt s (n + 4)), .complex .f32 (numAt s (n + 8)) (numAt s (n + 12)), .float .f32 (numAt s (n + 16)), .float .f32 (numAt s (n + 20))], .bool (pdAt s n).ok]) ∧ Below w.heap.size w w' := by
  subst hi
  exact l10Particle_any s n w hs h

theorem four_list (s : ByteArray) (p : Nat) (h : p + 4 ≤ s.size) : (s.extract p (p + 4)).data.toList = [s.data.getD p 0, s.data.getD (p + 1) 0, s.data.getD (p + 2) 0, s.data.getD (p + 3) 0] := by
  have hl : (s.extract p (p + 4)).data.toList.length = 4 := by
    have := extract_size s p (p + 4) h
    rw [Array.length_toList]
    show (s.extract p (p + 4)).size = 4
    omega
  apply List.ext_getElem (by rw [hl]; rfl)
  intro j h1 h2
  have hj : j < 4 := by rw [hl] at h1; exact h1
  have e : (s.extract p (p + 4)).data.toList[j] = (s.extract p (p + 4)).data.getD j 0 := by
    unfold Array.getD
    rw [Array.length_toList] at h1
    rw [dif_pos h1]; rfl
  rw [e, getD_extract s p (p + 4) j h (by omega)]
  have : j = 0 ∨ j = 1 ∨ j = 2 ∨ j = 3 := by omega
  rcases this with rfl | rfl | rfl | rfl <;> rfl
theorem byte_beq (b : UInt8) (n : Nat) (h : n < 256) : (b == UInt8.ofNat n) = (b.toNat == n) := by
  rw [Bool.eq_iff_iff, beq_iff_eq, beq_iff_eq, ← UInt8.toNat_inj, UInt8.toNat_ofNat', Nat.mod_eq_of_lt h]
theorem mark_str (s : ByteArray) (p : Nat) (h : p + 4 ≤ s.size) : ((s.extract p (p + 4)).toList == [67, 76, 68, 49]) = markAt s p := by
  rw [Lib.toList_data, four_list s p h]
  show (s.data.getD p 0 == UInt8.ofNat 67 && (s.data.getD (p + 1) 0 == UInt8.ofNat 76 && (s.data.getD (p + 2) 0 == UInt8.ofNat 68 && (s.data.getD (p + 3) 0 == UInt8.ofNat 49 && true)))) = _
  rw [byte_beq _ 67 (by omega), byte_beq _ 76 (by omega), byte_beq _ 68 (by omega), byte_beq _ 49 (by omega)]
  unfold markAt byteAt
  simp only [Bool.and_true, Bool.and_assoc]

set_option maxHeartbeats 1000000 in
set_option maxRecDepth 20000 in
theorem l10Begin_short (s : ByteArray) (p : Nat) (w : World) (hS : s.size ≤ 2000000) (hp : p ≤ s.size) (h : s.size < p + 15) :
    Calls Try.prog 46 #[.string s, .int .i64 p] w (BeginNo w) := by
  have hd : decide ((s.size : Int) < (p : Int) + 15) = true := by simp; omega
  clear h
  go_enter Try.func46, Try.ntmps46
  go_wp2_with fail
  go_returns
  exact ⟨_, _, _, _, _, _, _, _, rfl, by go_grown⟩

set_option maxHeartbeats 1000000 in
set_option maxRecDepth 20000 in
theorem l10Begin_else (s : ByteArray) (p : Nat) (w : World) (hS : s.size ≤ 2000000) (h : p + 15 ≤ s.size) (hm : markAt s p = false) :
    Calls Try.prog 46 #[.string s, .int .i64 p] w (BeginNo w) := by
  have hd : decide ((s.size : Int) < (p : Int) + 15) = false := by simp; omega
  have h1 : (p : Int) + 4 ≤ s.size := by omega
  have hms : (!(s.extract p (p + 4)).toList == [67, 76, 68, 49]) = true := by rw [mark_str s p (by omega), hm]; rfl
  clear hm
  go_enter Try.func46, Try.ntmps46
  go_wp2_with fail
  go_returns
  exact ⟨_, _, _, _, _, _, _, _, rfl, by go_grown⟩

set_option maxHeartbeats 4000000 in
set_option maxRecDepth 20000 in
theorem l10Begin_rest (s : ByteArray) (p : Nat) (w : World) (hS : s.size ≤ 2000000) (h : p + 15 ≤ s.size) (hm : markAt s p = true) :
    Calls Try.prog 46 #[.string s, .int .i64 p] w (BeginOut s p w) := by
  have hd : decide ((s.size : Int) < (p : Int) + 15) = false := by simp; omega
  have h1 : (p : Int) + 4 ≤ s.size := by omega
  have hms : (!(s.extract p (p + 4)).toList == [67, 76, 68, 49]) = false := by rw [mark_str s p (by omega), hm]; rfl
  have i4 := run_byteAt s (p + 4) (p + 4) (by omega) (by omega)
  have i5 := run_byteAt s (p + 5) (p + 5) (by omega) (by omega)
  have i14 := run_byteAt s (p + 14) (p + 14) (by omega) (by omega)
  have l4 := byteAt_lt s (p + 4)
  have l5 := byteAt_lt s (p + 5)
  have l14 := byteAt_lt s (p + 14)
  have q4 : (p : Int) + 4 < s.size := by omega
  have q5 : (p : Int) + 5 < s.size := by omega
  have q0 : (0 : Int) ≤ (p : Int) + 4 := by omega
  have q1 : (0 : Int) ≤ (p : Int) + 5 := by omega
  have w4 : IntKind.i64.wrap ((p : Int) + 4) = (p : Int) + 4 := wraps_i64 _ (by omega) (by omega)
  have w5 : IntKind.i64.wrap ((p : Int) + 5) = (p : Int) + 5 := wraps_i64 _ (by omega) (by omega)
  have v4 : IntKind.i64.wrap (byteAt s (p + 4)) = byteAt s (p + 4) := wraps_i64 _ (by omega) (by omega)
  have v5 : IntKind.i64.wrap (byteAt s (p + 5)) = byteAt s (p + 5) := wraps_i64 _ (by omega) (by omega)
  have e6 : ((p : Int) + 6).toNat = p + 6 := by omega
  have e10 : ((p : Int) + 10).toNat = p + 10 := by omega
  have HM := keep hm
  clear hm
  go_enter Try.func46, Try.ntmps46
  go_upto_region 4 with fail
  go_cut [7] (fun s7 wx => s7 = .pointer (some ⟨w.heap.size + 1 + 1, 0, none⟩) ∧ Has wx (w.heap.size + 1 + 1) 34 #[.int .i64 (byteAt s (p + 4)), .int .i64 (byteAt s (p + 5)), .slice (some ⟨w.heap.size + 1, 0, none⟩) 0 0, .float .f32 0, .float .f32 0] ∧ Has wx w.heap.size 34 #[.int .i64 0, .int .i64 0, .slice none 0 0, .float .f32 0, .float .f32 0] ∧ Kept (wx.ownsRow (w.heap.size + 1) 25 4 (.slice (some ⟨w.heap.size + 1, 0, none⟩) 0 0) 0 []) ∧ Below w.heap.size w wx)
  case first =>
    have q1 := Has.made w 34 #[.int .i64 0, .int .i64 0, .slice none 0 0, .float .f32 0, .float .f32 0]
    have q2 := fun (c1 c2 : Array Value) => Has.made ((w.alloc (.cells c1 34)).alloc (.cells c2 25)) 34 #[.int .i64 (byteAt s (p + 4)), .int .i64 (byteAt s (p + 5)), .slice (some ⟨w.heap.size + 1, 0, none⟩) 0 0, .float .f32 0, .float .f32 0]
    have q3 := fun (c1 : Array Value) => World.ownsRow_made (w.alloc (.cells c1 34)) (base := w.heap.size + 1) (e := 25) (size := 4) #[] 0 (by simp) (by unfold maxLen; omega) rfl
    simp only [World.size_alloc] at q2 q3
    have Q1 := keep q1
    have Q2 := keep q2
    have Q3 := keep q3
    clear q1 q2 q3
    go_region_held3 (fun _ => True) (trivial) (fail)
    all_goals
      go_wp2_with fail
      go_meet
      exact ⟨rfl, Q2.out _ _, (Q1.out.beside _).beside _, keep ((Q3.out _).alloc _), by go_grown⟩
  case rest =>
    obtain ⟨rfl, h5, h2, ho, hb⟩ := hcut
    have c5 := h5.cells
    have f5 := h5.free
    have c2 := h2.cells
    have f2 := h2.free
    clear q4 q5 q0 q1 w4 w5 v4 v5 i4 i5 hms hd
    by_cases hsz : p + 15 + 24 * byteAt s (p + 14) ≤ s.size
    case neg =>
      have hlt : decide ((s.size : Int) < (p : Int) + 15 + 24 * (byteAt s (p + 14) : Int)) = true := by simp; omega
      have hno : goodAt s p = false := by
        unfold goodAt nAt
        rw [show decide (p + 15 + 24 * byteAt s (p + 14) ≤ s.size) = false by simp; omega]
        simp
      have HNO := keep hno
      clear hsz hno
      go_wp2_with (go_at_call 67; refine (l10Number_at s _ _ (by omega) (by omega) (by omega)).mono ?_; rintro e w' ⟨rfl, m', rfl⟩)
      have q := (((((((h2.elsewhere (p := ⟨w.heap.size + 1 + 1, 3, none⟩) (by show w.heap.size ≠ w.heap.size + 1 + 1; omega) (.float .f32 (numAt s (p + 6)))).elsewhere (p := ⟨w.heap.size + 1 + 1, 4, none⟩) (by show w.heap.size ≠ w.heap.size + 1 + 1; omega) (.float .f32 (numAt s (p + 10)))).written 0 (.int .i64 (byteAt s (p + 4)))).written 1 (.int .i64 (byteAt s (p + 5)))).written 2 (.slice (some ⟨w.heap.size + 1, 0, none⟩) 0 0)).written 3 (.float .f32 (numAt s (p + 6)))).written 4 (.float .f32 (numAt s (p + 10))))
      have c := q.cells
      refine bodyPost_ret (v := .tuple #[cloudV (byteAt s (p + 4)) (byteAt s (p + 5)) (.slice (some ⟨w.heap.size + 1, 0, none⟩) 0 0) (numAt s (p + 6)) (numAt s (p + 10)), .int .i64 0, .bool false]) (by simp [results, Try.results46, go_sem, c]; rfl) rfl ⟨fun h => absurd h (by rw [HNO.out]; simp), fun _ => ⟨_, _, _, _, _, _, _, _, rfl, Below.drewN_of (((((((hb.setCell (p := ⟨w.heap.size + 1 + 1, 3, none⟩) (by show w.heap.size ≤ w.heap.size + 1 + 1; omega) _).setCell (p := ⟨w.heap.size + 1 + 1, 4, none⟩) (by show w.heap.size ≤ w.heap.size + 1 + 1; omega) _).setCell (Nat.le_refl _) _).setCell (Nat.le_refl _) _).setCell (Nat.le_refl _) _).setCell (Nat.le_refl _) _).setCell (Nat.le_refl _) _) _⟩⟩
    case pos =>
      have hlt : decide ((s.size : Int) < (p : Int) + 15 + 24 * (byteAt s (p + 14) : Int)) = false := by simp; omega
      go_wp2_with (go_at_call 67; refine (l10Number_at s _ _ (by omega) (by omega) (by omega)).mono ?_; rintro e w' ⟨rfl, m', rfl⟩)
      have H5 := (h5.written 3 (.float .f32 (numAt s (p + 6)))).written 4 (.float .f32 (numAt s (p + 10)))
      have H2 := (h2.elsewhere (p := ⟨w.heap.size + 1 + 1, 3, none⟩) (by show w.heap.size ≠ w.heap.size + 1 + 1; omega) (.float .f32 (numAt s (p + 6)))).elsewhere (p := ⟨w.heap.size + 1 + 1, 4, none⟩) (by show w.heap.size ≠ w.heap.size + 1 + 1; omega) (.float .f32 (numAt s (p + 10)))
      have HO := own_set (a := ⟨w.heap.size + 1 + 1, 4, none⟩) (own_set (a := ⟨w.heap.size + 1 + 1, 3, none⟩) ho.out (own_ne ho.out h5 (by decide)) (.float .f32 (numAt s (p + 6)))) (own_ne ho.out h5 (by decide)) (.float .f32 (numAt s (p + 10)))
      have HB := (hb.setCell (p := ⟨w.heap.size + 1 + 1, 3, none⟩) (by show w.heap.size ≤ w.heap.size + 1 + 1; omega) (.float .f32 (numAt s (p + 6)))).setCell (p := ⟨w.heap.size + 1 + 1, 4, none⟩) (by show w.heap.size ≤ w.heap.size + 1 + 1; omega) (.float .f32 (numAt s (p + 10)))
      clear hlt c2 f2 c5 f5 i14 h5 h2 ho hb
      go_loopw [10] (fun r wr => ∃ (k : Nat) (a : Option Addr) (n c : Nat), k ≤ byteAt s (p + 14) ∧ r = .int .i64 k ∧ Has wr (w.heap.size + 1 + 1) 34 #[.int .i64 (byteAt s (p + 4)), .int .i64 (byteAt s (p + 5)), .slice a n c, .float .f32 (numAt s (p + 6)), .float .f32 (numAt s (p + 10))] ∧ Has wr w.heap.size 34 #[.int .i64 0, .int .i64 0, .slice none 0 0, .float .f32 0, .float .f32 0] ∧ Kept (wr.ownsRow (w.heap.size + 1) 25 4 (.slice a n c) k (psCells (psAt s p k))) ∧ Kept ((psAt s p k).all PD.ok = true) ∧ Below w.heap.size w wr) (fun r _ => byteAt s (p + 14) - (intOf r).toNat)
      case atStart => exact ⟨0, _, _, _, Nat.zero_le _, rfl, H5, H2, keep HO, keep rfl, Below.drewN_of HB _⟩
      case round =>
        clear H5 H2 HO HB
        obtain ⟨k, a, n, c, hk, rfl, h5, h2, ho, hall, hbr⟩ := hrel
        by_cases hlk : k < byteAt s (p + 14)
        case pos =>
          have hin : p + 15 + 24 * k + 24 ≤ s.size := by omega
          have Hc := keep (fun i (hi : i = ((p + 15 + 24 * k : Nat) : Int)) w => l10Particle_at s i (p + 15 + 24 * k) hi w (by omega) hin)
          have hi1 : (p : Int) + 15 + 24 * (k : Int) = ((p + 15 + 24 * k : Nat) : Int) := by omega
          have HI1 := keep hi1
          have hlkI : (k : Int) < (byteAt s (p + 14) : Int) := by omega
          have c5 := h5.cells
          clear hi1 hin
          cases hok : (pdAt s (p + 15 + 24 * k)).ok
          case false =>
            have HNO : Kept (goodAt s p = false) := keep (by
              unfold goodAt nAt
              cases hg : (psAt s p (byteAt s (p + 14))).all PD.ok
              · simp
              · have := psAt_all s p _ hg k hlk
                rw [hok] at this
                cases this)
            rw [hok] at Hc
            clear hok hlk
            go_wp2_with (go_at_call 36; refine (Hc.out _ HI1.out _).mono ?_; rintro e w' ⟨rfl, hb2⟩; have p2 := h2.after hb2; have p5 := h5.after hb2; have c5 := p5.cells; have c2 := p2.cells; have f2 := p2.free; have z2 := p2.in_heap; have z5 := p5.in_heap)
            have hs1 := hbr.size
            have hb3 := hbr.trans (hb2.mono hs1)
            have hs2 := hb2.size
            have q := Has.beside (((((p2.written 0 (.int .i64 (byteAt s (p + 4)))).written 1 (.int .i64 (byteAt s (p + 5)))).written 2 (.slice a n c)).written 3 (.float .f32 (numAt s (p + 6)))).written 4 (.float .f32 (numAt s (p + 10)))) (.cells #[.complex .f32 (numAt s (p + 15 + 24 * k)) (numAt s (p + 15 + 24 * k + 4)), .complex .f32 (numAt s (p + 15 + 24 * k + 8)) (numAt s (p + 15 + 24 * k + 12)), .float .f32 (numAt s (p + 15 + 24 * k + 16)), .float .f32 (numAt s (p + 15 + 24 * k + 20))] 25)
            have qc := q.cells
            refine bodyPost_ret (v := .tuple #[cloudV (byteAt s (p + 4)) (byteAt s (p + 5)) (.slice a n c) (numAt s (p + 6)) (numAt s (p + 10)), .int .i64 0, .bool false]) (by simp [results, Try.results46, go_sem, qc]; rfl) rfl ⟨fun h => absurd h (by rw [HNO.out]; simp), fun _ => ⟨_, _, _, _, _, _, _, _, rfl, (((((hb3.setCell (Nat.le_refl _) _).setCell (Nat.le_refl _) _).setCell (Nat.le_refl _) _).setCell (Nat.le_refl _) _).setCell (Nat.le_refl _) _).alloc (by simp; omega) _⟩⟩
          case true =>
            rw [hok] at Hc
            have Hok := keep hok
            have Hlk := keep hlk
            obtain ⟨i0, hi, hz0, hz1, hz2⟩ := info_parts infoParticle
            have HI := keep hi
            have HZ0 := keep hz0
            have HZ1 := keep hz1
            have HZ2 := keep hz2
            have hkb : k < 256 := by omega
            have hneG := own_ne ho.out h5 (by decide)
            have HNG := keep hneG
            clear hi hz0 hz1 hz2 hok hlk hneG
            go_wp2_with (first
              | (go_at_call 36; refine (Hc.out _ HI1.out _).mono ?_; rintro e w' ⟨rfl, hb2⟩; have p2 := h2.after hb2; have p5 := h5.after hb2; have c5 := p5.cells; have f5 := p5.free; have z5 := p5.in_heap; have o2 := owns_below ho.out hb2; have H2 := keep p2; have H5 := keep p5; have HB2 := keep hb2; have O2 := keep o2; clear p2 p5 hb2 o2)
              | (at_builtin; go_loud (refine wpList_append_own_at _ rfl _ _ 32 rfl (w.heap.size + 1) 25 i0 _ 4 24 Try.underlying32 HI.out HZ0.out HZ1.out HZ2.out rfl (by decide) (.slice a n c) k _ rfl ((O2.out.alloc _).alloc _) ⟨w'.heap.size + 1, 0, none⟩ 1 1 (pdAt s (p + 15 + 24 * k)).cells rfl rfl ?c1 ?c2 ?c3 ?c4 ?c5 ?_)))
            case c1 =>
              have r := Has.made (w'.alloc (.cells #[.complex .f32 (numAt s (p + 15 + 24 * k)) (numAt s (p + 15 + 24 * k + 4)), .complex .f32 (numAt s (p + 15 + 24 * k + 8)) (numAt s (p + 15 + 24 * k + 12)), .float .f32 (numAt s (p + 15 + 24 * k + 16)), .float .f32 (numAt s (p + 15 + 24 * k + 20))] 25)) 25 #[.complex .f32 (numAt s (p + 15 + 24 * k)) (numAt s (p + 15 + 24 * k + 4)), .complex .f32 (numAt s (p + 15 + 24 * k + 8)) (numAt s (p + 15 + 24 * k + 12)), .float .f32 (numAt s (p + 15 + 24 * k + 16)), .float .f32 (numAt s (p + 15 + 24 * k + 20))]
              rw [World.size_alloc] at r
              intro j u hj
              first | exact four_new r j u hj | exact hj
            case c2 =>
              intro u hu
              simp only [PD.cells, pdAt, List.mem_cons, List.not_mem_nil, or_false] at hu
              rcases hu with rfl | rfl | rfl | rfl <;> rfl
            case c3 => unfold maxLen; omega
            case c4 => omega
            case c5 => first | omega | (simp only [World.size_alloc]; omega)
            intro v' w4 hown' hgrow _ _
            obtain ⟨g', cap', rfl, hB', hlt'⟩ := hown'.form (by omega)
            have hL := ho.out.lt
            have s1 := hbr.size
            have s2 := HB2.out.size
            have p5 := Has.grown ((H5.out.beside _).beside _) hgrow (HNG.out)
            have p2 := Has.grown ((H2.out.beside _).beside _) hgrow (fun e => by have := hL _ e; omega)
            have b4 := (((hbr.trans (HB2.out.mono s1)).alloc (by omega) _).alloc (by simp; omega) _).grown hgrow (by simp; omega) (fun b e => by have := hL b e; omega)
            have HN2 := keep (own_ne hown' p5 (by decide))
            have c5 := p5.cells
            have f5 := p5.free
            have P5 := keep p5
            have P2 := keep p2
            have B4 := keep b4
            have OW := keep hown'
            clear hown' hgrow p5 p2 b4 hL h5 h2
            go_wp2_with fail
            go_roundw
            case rel =>
              have e1 := Hlk.out
              have e2 := psCells_succ s p k
              have e3 := psAll_succ s p k hall.out
              exact ⟨k + 1, _, _, _, by omega, by go_num, P5.out.written 2 _, P2.out.elsewhere (by show w.heap.size ≠ w.heap.size + 1 + 1; omega) _, keep (by rw [e2]; exact own_set OW.out HN2.out _), keep (e3 Hok.out), B4.out.setCell (by show w.heap.size ≤ w.heap.size + 1 + 1; omega) _⟩
            case measure => have := Hlk.out; simp [intOf]; omega
        case neg =>
          obtain rfl : k = byteAt s (p + 14) := by omega
          have c5 := h5.cells
          have c2 := h2.cells
          have f2 := h2.free
          have V := fun w' e1 e2 e3 => l05Is_ok (w.heap.size + 1) (w.heap.size + 1 + 1) (.slice a n c) (psAt s p (byteAt s (p + 14))) (byteAt s (p + 4)) (byteAt s (p + 5)) (numAt s (p + 6)) (numAt s (p + 10)) w' e1 e2 (by rw [psAt_length]; omega) e3
          rw [psAt_length] at V
          have HV := keep (V wr.drew ho.out hall.out c5)
          have HZ : Kept (s.size ≥ p + 15 + 24 * byteAt s (p + 14)) := keep hsz
          clear hlk V hsz hk
          cases hok : okCloud (byteAt s (p + 4)) (byteAt s (p + 5)) (byteAt s (p + 14)) (numAt s (p + 6)) (numAt s (p + 10))
          all_goals
            rw [hok] at HV
            have Hok := keep hok
            clear hok
            go_wp2_with fail
            have d0 : wr.cell? ⟨w.heap.size + 1 + 1, 0, none⟩ = some (.int .i64 (byteAt s (p + 4))) := c5 0
            have d1 : wr.cell? ⟨w.heap.size + 1 + 1, 1, none⟩ = some (.int .i64 (byteAt s (p + 5))) := c5 1
            have d2 : wr.cell? ⟨w.heap.size + 1 + 1, 2, none⟩ = some (.slice a n c) := c5 2
            have d3 : wr.cell? ⟨w.heap.size + 1 + 1, 3, none⟩ = some (.float .f32 (numAt s (p + 6))) := c5 3
            have d4 : wr.cell? ⟨w.heap.size + 1 + 1, 4, none⟩ = some (.float .f32 (numAt s (p + 10))) := c5 4
            clear c5
            go_region_with (go_at_call 73; refine HV.out.mono ?_; rintro e w' ⟨rfl, m2, rfl⟩)
            all_goals go_wp2_with fail
            all_goals
              have q := ((((h2.written 0 (.int .i64 (byteAt s (p + 4)))).written 1 (.int .i64 (byteAt s (p + 5)))).written 2 (.slice a n c)).written 3 (.float .f32 (numAt s (p + 6)))).written 4 (.float .f32 (numAt s (p + 10)))
              have qc := q.cells
              have bb := ((((hbr.setCell (p := ⟨w.heap.size, 0, none⟩) (Nat.le_refl _) (.int .i64 (byteAt s (p + 4)))).setCell (p := ⟨w.heap.size, 1, none⟩) (Nat.le_refl _) (.int .i64 (byteAt s (p + 5)))).setCell (p := ⟨w.heap.size, 2, none⟩) (Nat.le_refl _) (.slice a n c)).setCell (p := ⟨w.heap.size, 3, none⟩) (Nat.le_refl _) (.float .f32 (numAt s (p + 6)))).setCell (p := ⟨w.heap.size, 4, none⟩) (Nat.le_refl _) (.float .f32 (numAt s (p + 10)))
              have oo := ownsRow_setCell_below (a := ⟨w.heap.size, 4, none⟩) (ownsRow_setCell_below (a := ⟨w.heap.size, 3, none⟩) (ownsRow_setCell_below (a := ⟨w.heap.size, 2, none⟩) (ownsRow_setCell_below (a := ⟨w.heap.size, 1, none⟩) (ownsRow_setCell_below (a := ⟨w.heap.size, 0, none⟩) ho.out (by show w.heap.size < w.heap.size + 1; omega) (.int .i64 (byteAt s (p + 4)))) (by show w.heap.size < w.heap.size + 1; omega) (.int .i64 (byteAt s (p + 5)))) (by show w.heap.size < w.heap.size + 1; omega) (.slice a n c)) (by show w.heap.size < w.heap.size + 1; omega) (.float .f32 (numAt s (p + 6)))) (by show w.heap.size < w.heap.size + 1; omega) (.float .f32 (numAt s (p + 10)))
              have hgood : goodAt s p = okCloud (byteAt s (p + 4)) (byteAt s (p + 5)) (byteAt s (p + 14)) (numAt s (p + 6)) (numAt s (p + 10)) := by
                unfold goodAt nAt
                rw [HM.out, hall.out, show decide (p + 15 ≤ s.size) = true by simp; omega, show decide (p + 15 + 24 * byteAt s (p + 14) ≤ s.size) = true by have := HZ.out; simp; omega]
                rfl
              rw [Hok.out] at hgood
              first
              | (refine bodyPost_ret (v := .tuple #[cloudV (byteAt s (p + 4)) (byteAt s (p + 5)) (.slice a n c) (numAt s (p + 6)) (numAt s (p + 10)), .int .i64 (p + 15 + 24 * byteAt s (p + 14) : Nat), .bool true]) (by simp [results, Try.results46, go_sem, qc]; rfl) rfl ⟨fun _ => ⟨a, n, c, rfl, ?_, Below.drewN_of bb _⟩, fun h => absurd h (by rw [hgood]; simp)⟩
                 rw [psAt_length]
                 exact World.ownsRow.mono (show World.ownsRow _ _ _ _ _ _ _ from oo) (by omega))
              | exact bodyPost_ret (v := .tuple #[cloudV (byteAt s (p + 4)) (byteAt s (p + 5)) (.slice a n c) (numAt s (p + 6)) (numAt s (p + 10)), .int .i64 (p + 15 + 24 * byteAt s (p + 14) : Nat), .bool false]) (by simp [results, Try.results46, go_sem, qc]; rfl) rfl ⟨fun h => absurd h (by rw [hgood]; simp), fun _ => ⟨_, _, _, _, _, _, _, _, rfl, Below.drewN_of bb _⟩⟩
end Go.Proofs.Ytafaabhnkjjkcaa
