/- Contract: the field of a spring, in eighths. Contracts: StartBack and its closure, WayOfLeap, SpeedBetween, LongestLeap, by chains of operations. No condition but that the chains run and end in numbers. Contract: the longest of the ways in a tick. Plain: speeds that are pushed back, lengths of ways, leaps of an eighth of a tick and what is told of them. No condition on the program. Plain: all that is told of a list of particles in the field of a spring. No condition on the program. -/
import Derived.Test.YtdonmboidpppmaaVm
import Derived.Test.YtdonmboidpppmaaVk
import Derived.Test.YtdonmboidpppmaaVh
import Derived.Test.YtdonmboidpppmaaBe
namespace Go.Proofs.Ytdonmboidpppmaa
open Go.RowKit Go.Sort Ieee
set_option linter.unusedSimpArgs false
set_option linter.unusedVariables false

def sprChk (W x : Nat) : Bool := floatBits .quo .f32 (floatOfInt .f32 (W : Int)) 1073741824 == some (wd single 3 (4 * (W : Int))) && floatBits .sub .f32 (wd single 3 (4 * (W : Int))) (floatOfInt .f32 (x : Int)) == some (wd single 3 (4 * (W : Int) - 8 * (x : Int))) && floatBits .mul .f32 1048576000 (wd single 3 (4 * (W : Int) - 8 * (x : Int))) == some (wd single 3 ((W : Int) - 2 * (x : Int)))
theorem spr_all : ∀ (W : Fin 4) (x : Fin 8), sprChk (W.val + 4) x.val = true := by decide +kernel
theorem spr_words (W x : Nat) (h4 : 4 ≤ W) (h7 : W ≤ 7) (hx : x < 8) : floatBits .quo .f32 (floatOfInt .f32 (W : Int)) 1073741824 = some (wd single 3 (4 * (W : Int))) ∧ floatBits .sub .f32 (wd single 3 (4 * (W : Int))) (floatOfInt .f32 (x : Int)) = some (wd single 3 (4 * (W : Int) - 8 * (x : Int))) ∧ floatBits .mul .f32 1048576000 (wd single 3 (4 * (W : Int) - 8 * (x : Int))) = some (wd single 3 ((W : Int) - 2 * (x : Int))) := by
  have h := spr_all ⟨W - 4, by omega⟩ ⟨x, hx⟩
  have e : W - 4 + 4 = W := by omega
  simp only [e] at h
  unfold sprChk at h
  simp only [Bool.and_eq_true, beq_iff_eq] at h
  exact ⟨h.1.1, h.1.2, h.2⟩
/-- So many numbers of a spring's field: the first is the side. -/
structure SprL (W : Nat) (la : List Int) (n : Nat) : Prop where
  len : la.length = n
  small : Small la 8
  head : la = [] ∨ la.head? = some (W : Int)
theorem SprL.nil (W : Nat) : SprL W [] 0 := ⟨rfl, (fun _ h => by cases h), .inl rfl⟩
theorem SprL.snoc {W : Nat} {la : List Int} {n : Nat} (h : SprL W la n) (v : Int) (hv : v.natAbs ≤ 8) (h0 : n = 0 → v = (W : Int)) : SprL W (la ++ [v]) (n + 1) := by
  refine ⟨by rw [List.length_append, h.len]; rfl, h.small.snoc v hv, .inr ?_⟩
  rcases h.head with e | e
  · subst e
    have := h.len
    rw [h0 (by simpa using this.symm)]; rfl
  · cases la with
    | nil => cases e
    | cons a l => exact e
def AprtV (v1 v2 : Value) : Prop := v1.ownBlock = none ∨ v1.ownBlock ≠ v2.ownBlock
theorem AprtV.step {w : World} {B e size n : Nat} {v1 v1' v2 : Value} {xs : List Value} (h : w.ownsRow B e size v2 n xs) (d : AprtV v1 v2) (d' : AprtV v2 v1) (hor : v1'.ownBlock = v1.ownBlock ∨ v1'.ownBlock = some w.heap.size) : AprtV v1' v2 ∧ AprtV v2 v1' := by
  unfold AprtV at *
  rcases hor with h1 | h1
  · rw [h1]; exact ⟨d, d'⟩
  · rw [h1]
    have hl : v2.ownBlock ≠ some w.heap.size := fun e => by have := (h.lt _ e).2; omega
    exact ⟨.inr (fun e => hl e.symm), .inr hl⟩
theorem fWords_fin (la : List Int) (hs : Small la 8) : (fWords 3 la).all (fun x => fin .f32 x) = true := by
  rw [List.all_eq_true]
  intro z hz
  obtain ⟨n, hn, rfl⟩ := List.mem_map.1 hz
  exact fin_wd 3 n (by omega) (by have := hs n hn; omega)

theorem info_f32 : (Try.prog.info? 32).map (fun i => (i.zero, i.size, i.bytes)) = some (some (.float .f32 0), 1, 4) := by kernel_rfl
theorem own_fin {w : World} {B c : Nat} {A : Option Addr} {la : List Int} (h : w.ownsRow B 32 1 (.slice A la.length c) la.length (fList 3 la)) (hs : Small la 8) (hp : 0 < la.length) (hN : la.length ≤ 1000) : ∃ g, A = some ⟨g, 0, none⟩ ∧ FldAt w g 3 la := by
  rcases h.2 with ⟨e, hn⟩ | ⟨g, cap, cur, e, _⟩
  · omega
  · injection e with e1 e2 e3
    subst e1
    exact ⟨g, rfl, own_fld h⟩
theorem areFin_ok (g c : Nat) (la : List Int) (w : World) (h : FldAt w g 3 la) (hs : Small la 8) (hN : la.length ≤ 1000) : Calls Try.prog 36 #[.slice (some ⟨g, 0, none⟩) la.length c] w fun e w' => e = .returned (.bool true) ∧ Below w.heap.size w w' := by
  have hl : (fWords 3 la).length = la.length := List.length_map ..
  have H := areFinite_any (fWords 3 la) g 0 c w (by omega) (fun i hi => by
    have := h.words.2 i hi
    rw [Nat.zero_add, this, List.getD_eq_getElem?_getD, List.getElem?_eq_getElem hi]; rfl)
  rw [fWords_fin la hs, hl] at H
  exact H.mono fun _ _ ⟨he, m, hw⟩ => ⟨he, hw ▸ Below.drewN_of (Below.refl _ _) m⟩

set_option maxHeartbeats 8000000 in
set_option maxRecDepth 20000 in
theorem SpringField_ok (W H : Nat) (hS : Sides W H) (w : World) : Calls Try.prog 8 #[gridV W H, .float .f32 1048576000] w fun e w' => ∃ (la lb : List Int) (g1 c1 g2 c2 : Nat), SprL W la (W * H) ∧ SprL H lb (W * H) ∧ e = .returned (.tuple #[.slice (some ⟨g1, 0, none⟩) la.length c1, .slice (some ⟨g2, 0, none⟩) lb.length c2, .bool true]) ∧ FldAt w' g1 3 la ∧ FldAt w' g2 3 lb ∧ Below w.heap.size w w' := by
  have VG := keep (fun w => ValidGrid_ok W H hS w)
  have IF := keep (fun w => toBN (bIsF 1048576000 ⟨false, 8388608, -25, by decide +kernel⟩ w))
  have AF := keep (fun g c la w h hs hN => areFin_ok g c la w h hs hN)
  have SW := keep (fun x (hx : x < 8) => spr_words W x hS.1.1 hS.1.2 hx)
  have SH := keep (fun x (hx : x < 8) => spr_words H x hS.2.1 hS.2.2 hx)
  have G0 := keep (Has.made w 25 #[.int .i64 W, .int .i64 H])
  have B0 := keep ((Below.refl w.heap.size w).alloc (Nat.le_refl _) (.cells #[.int .i64 W, .int .i64 H] 25))
  obtain ⟨i0, hi0, hz0, hz1, hz2⟩ := info_parts info_f32
  have HI := keep hi0
  have HZ0 := keep hz0
  have HZ1 := keep hz1
  have HZ2 := keep hz2
  obtain ⟨⟨hW4, hW7⟩, hH4, hH7⟩ := hS
  have SL : W * H ≤ 49 := Nat.mul_le_mul hW7 hH7
  have SL0 : 0 < W * H := Nat.mul_pos (by omega) (by omega)
  have k0 := G0.out.cells
  clear hi0 hz0 hz1 hz2
  unfold gridV at *
  go_enter Try.func8, Try.ntmps8
  go_wp2_with fail
  refine (VG.out _).mono ?_
  rintro e w1 ⟨rfl, hb⟩
  have G1 := keep (G0.out.after hb)
  have B1 := keep (B0.out.trans (hb.mono B0.out.size))
  clear hb G0 B0 k0 VG
  go_wp2_with fail
  refine (IF.out _).mono ?_
  rintro e w2 ⟨rfl, hb⟩
  have G2 := keep (G1.out.after hb)
  have B2 := keep (B1.out.trans (hb.mono B1.out.size))
  clear hb G1 B1 IF
  have kg := G2.out.cells
  go_wp2_with fail
  clear kg
  have ON := keep (World.ownsRow_nil w2 (w.heap.size + 1) 32 1)
  go_loopw [21, 7, 8] (fun s o t wr => ∃ (y : Nat) (D : Option Addr) (d : Nat) (la : List Int) (E : Option Addr) (e : Nat) (lb : List Int), y ≤ H ∧ s = .int .i64 y ∧ o = .slice D la.length d ∧ t = .slice E lb.length e ∧ Kept (SprL W la (W * y)) ∧ Kept (SprL H lb (W * y)) ∧ Kept (wr.ownsRow (w.heap.size + 1) 32 1 (.slice D la.length d) la.length (fList 3 la)) ∧ Kept (wr.ownsRow (w.heap.size + 1) 32 1 (.slice E lb.length e) lb.length (fList 3 lb)) ∧ Kept (AprtV (.slice D la.length d) (.slice E lb.length e)) ∧ Kept (AprtV (.slice E lb.length e) (.slice D la.length d)) ∧ Kept (Has wr w.heap.size 25 #[.int .i64 W, .int .i64 H]) ∧ Kept (Below w.heap.size w wr)) (fun s _ _ _ => H - (intOf s).toNat)
  case atStart => exact ⟨0, none, 0, [], none, 0, [], Nat.zero_le _, rfl, rfl, rfl, keep (SprL.nil W), keep (SprL.nil H), ON, ON, keep (.inl rfl), keep (.inl rfl), G2, B2⟩
  case round =>
    clear ON G2 B2
    obtain ⟨y, D, d, la, E, e, lb, hy, rfl, rfl, rfl, hla, hlb, hoa, hob, hda, hdb, hG, hb⟩ := hrel
    by_cases hlt : y < H
    · have kg := hG.out.cells
      go_wp2_with fail
      clear kg
      go_loopw [26, 7, 8] (fun s o t wq => ∃ (x : Nat) (D : Option Addr) (d : Nat) (la : List Int) (E : Option Addr) (e : Nat) (lb : List Int), x ≤ W ∧ s = .int .i64 x ∧ o = .slice D la.length d ∧ t = .slice E lb.length e ∧ Kept (SprL W la (W * y + x)) ∧ Kept (SprL H lb (W * y + x)) ∧ Kept (wq.ownsRow (w.heap.size + 1) 32 1 (.slice D la.length d) la.length (fList 3 la)) ∧ Kept (wq.ownsRow (w.heap.size + 1) 32 1 (.slice E lb.length e) lb.length (fList 3 lb)) ∧ Kept (AprtV (.slice D la.length d) (.slice E lb.length e)) ∧ Kept (AprtV (.slice E lb.length e) (.slice D la.length d)) ∧ Kept (Has wq w.heap.size 25 #[.int .i64 W, .int .i64 H]) ∧ Kept (Below w.heap.size w wq)) (fun s _ _ _ => W - (intOf s).toNat)
      case atStart => exact ⟨0, D, d, la, E, e, lb, Nat.zero_le _, rfl, rfl, rfl, hla, hlb, hoa, hob, hda, hdb, hG, hb⟩
      case round =>
        clear hla hlb hoa hob hda hdb hG hb
        obtain ⟨x, D, d, la, E, e, lb, hx, rfl, rfl, rfl, hla, hlb, hoa, hob, hda, hdb, hG, hb⟩ := hrel
        have hmul : W * y + W ≤ W * H := by have h1 := Nat.mul_le_mul_left W (show y + 1 ≤ H by omega); rw [Nat.mul_add, Nat.mul_one] at h1; exact h1
        have las : la.length ≤ 49 := by rw [hla.out.len]; omega
        have lbs : lb.length ≤ 49 := by rw [hlb.out.len]; omega
        have hsz : w.heap.size + 1 ≤ wr.heap.size := hG.out.in_heap
        by_cases hlt2 : x < W
        · have kg := hG.out.cells
          obtain ⟨q1, q2, q3⟩ := SW.out x (by omega)
          have f1 := zrun q1
          have f2 := zrun q2
          have f3 := zrun q3
          clear q1 q2 q3
          go_wp2_with (at_builtin; go_loud (refine wpList_append_own_at _ rfl _ _ 29 rfl (w.heap.size + 1) 32 i0 _ 1 4 Try.underlying29 HI.out HZ0.out HZ1.out HZ2.out rfl (by decide) (.slice D la.length d) la.length _ rfl (hoa.out.alloc _) ⟨wr.heap.size, 0, none⟩ 1 1 [.float .f32 (wd single 3 ((W : Int) - 2 * (x : Int)))] rfl rfl ?c1 ?c2 ?c3 ?c4 ?c5 ?_))
          case c1 =>
            intro i u hi
            rw [Addr.add_lit, Nat.zero_add]
            have e := (has_one wr (.float .f32 (wd single 3 ((W : Int) - 2 * (x : Int)))) 32).cells i
            rw [e]
            simpa using hi
          case c2 =>
            intro u hu
            rw [List.mem_singleton.1 hu]; rfl
          case c3 => unfold maxLen; omega
          case c4 => omega
          case c5 => first | omega | (simp only [World.size_alloc]; omega)
          intro v' w5 hown' hgrow _ hor
          obtain ⟨g', cap', rfl, hB', hlt'⟩ := hown'.form (by omega)
          have hL := hoa.out.lt
          have bX : Below (w.heap.size + 1) _ w5 := (Below.refl (w.heap.size + 1) _).grown hgrow (by simp only [World.size_alloc]; omega) (fun b e => (hL b e).1)
          have ot := hob.out.alloc (.cells #[.float .f32 (wd single 3 ((W : Int) - 2 * (x : Int)))] 32)
          have AP := keep (AprtV.step ot hda.out hdb.out (hor.imp id (fun e => e.trans (by first | rfl | (simp only [World.size_alloc])))))
          have OT := keep (ot.kept hgrow hdb.out)
          have B6 := keep (((hb).out.alloc (by omega) (.cells #[.float .f32 (wd single 3 ((W : Int) - 2 * (x : Int)))] 32)).trans (bX.mono (by omega)))
          have G6 := keep ((hG.out.beside (.cells #[.float .f32 (wd single 3 ((W : Int) - 2 * (x : Int)))] 32)).later bX (by omega))
          have OW := keep hown'
          have hz6 : w.heap.size + 1 ≤ w5.heap.size := by have := G6.out.in_heap; omega
          clear hown' hgrow bX hL ot hor
          have sa := keep (hla.out.snoc ((W : Int) - 2 * (x : Int)) (by omega) (fun h => by omega))
          have OWa := OW
          have OTa := OT
          have APa := AP
          have Ga := G6
          have Ba := B6
          have hza := hz6
          clear OW OT AP G6 B6 hz6 f1 f2 f3 kg hG hb hoa hob hda hdb hsz
          have kg := Ga.out.cells
          obtain ⟨q1, q2, q3⟩ := SH.out y (by omega)
          have f1 := zrun q1
          have f2 := zrun q2
          have f3 := zrun q3
          clear q1 q2 q3
          go_wp2_with (at_builtin; go_loud (refine wpList_append_own_at _ rfl _ _ 29 rfl (w.heap.size + 1) 32 i0 _ 1 4 Try.underlying29 HI.out HZ0.out HZ1.out HZ2.out rfl (by decide) (.slice E lb.length e) lb.length _ rfl (OTa.out.alloc _) ⟨w5.heap.size, 0, none⟩ 1 1 [.float .f32 (wd single 3 ((H : Int) - 2 * (y : Int)))] rfl rfl ?c1 ?c2 ?c3 ?c4 ?c5 ?_))
          case c1 =>
            intro i u hi
            rw [Addr.add_lit, Nat.zero_add]
            have e := (has_one w5 (.float .f32 (wd single 3 ((H : Int) - 2 * (y : Int)))) 32).cells i
            rw [e]
            simpa using hi
          case c2 =>
            intro u hu
            rw [List.mem_singleton.1 hu]; rfl
          case c3 => unfold maxLen; omega
          case c4 => omega
          case c5 => first | omega | (simp only [World.size_alloc]; omega)
          intro v' w7 hown' hgrow _ hor
          obtain ⟨g', cap', rfl, hB', hlt'⟩ := hown'.form (by omega)
          have hL := OTa.out.lt
          have bX : Below (w.heap.size + 1) _ w7 := (Below.refl (w.heap.size + 1) _).grown hgrow (by simp only [World.size_alloc]; omega) (fun b e => (hL b e).1)
          have ot := OWa.out.alloc (.cells #[.float .f32 (wd single 3 ((H : Int) - 2 * (y : Int)))] 32)
          have AP := keep (AprtV.step ot APa.out.2 APa.out.1 (hor.imp id (fun e => e.trans (by first | rfl | (simp only [World.size_alloc])))))
          have OT := keep (ot.kept hgrow APa.out.1)
          have B6 := keep (((Ba).out.alloc (by omega) (.cells #[.float .f32 (wd single 3 ((H : Int) - 2 * (y : Int)))] 32)).trans (bX.mono (by omega)))
          have G6 := keep ((Ga.out.beside (.cells #[.float .f32 (wd single 3 ((H : Int) - 2 * (y : Int)))] 32)).later bX (by omega))
          have OW := keep hown'
          have hz6 : w.heap.size + 1 ≤ w7.heap.size := by have := G6.out.in_heap; omega
          clear hown' hgrow bX hL ot hor
          have sb := keep (hlb.out.snoc ((H : Int) - 2 * (y : Int)) (by omega) (fun h => by
            have h1 : W * y = 0 := by omega
            have h2 : y = 0 := by rcases Nat.mul_eq_zero.1 h1 with h | h <;> omega
            omega))
          go_wp2_with fail
          go_roundw
          case rel => exact ⟨x + 1, _, _, la ++ [(W : Int) - 2 * (x : Int)], _, _, lb ++ [(H : Int) - 2 * (y : Int)], by omega, by go_num, by rw [List.length_append]; rfl, by rw [List.length_append]; rfl, sa, sb, keep (by
            have e := OT.out
            rw [fList_append, List.length_append]
            exact e), keep (by
            have e := OW.out
            rw [fList_append, List.length_append]
            exact e), keep (by have e := AP.out.2; rw [List.length_append, List.length_append]; exact e), keep (by have e := AP.out.1; rw [List.length_append, List.length_append]; exact e), G6, B6⟩
          case measure => simp [intOf]; omega
        · obtain rfl : x = W := by omega
          go_wp2_with fail
          go_roundw
          case rel => exact ⟨y + 1, D, d, la, E, e, lb, by omega, by go_num, rfl, rfl, keep (by rw [Nat.mul_add, Nat.mul_one]; exact hla.out), keep (by rw [Nat.mul_add, Nat.mul_one]; exact hlb.out), hoa, hob, hda, hdb, hG, hb⟩
          case measure => simp [intOf]; omega
    · obtain rfl : y = H := by omega
      have l1 := hla.out.len
      have l2 := hlb.out.len
      obtain ⟨g1, rfl, F1⟩ := own_fin hoa.out hla.out.small (by omega) (by omega)
      obtain ⟨g2, rfl, F2⟩ := own_fin hob.out hlb.out.small (by omega) (by omega)
      have F1 := keep F1
      have F2 := keep F2
      have N1 : la.length ≤ 1000 := by omega
      have N2 : lb.length ≤ 1000 := by omega
      have N1 := keep N1
      have N2 := keep N2
      clear l1 l2 SL SL0
      go_wp2_with fail
      refine (AF.out _ _ la _ F1.out hla.out.small N1.out).mono ?_
      rintro e w8 ⟨rfl, hb8⟩
      have F2b := keep (F2.out.after hb8)
      have F1b := keep (F1.out.after hb8)
      have B8 := keep (hb.out.trans (hb8.mono hb.out.size))
      clear hb8 F1 F2
      go_wp2_with fail
      refine (AF.out _ _ lb _ F2b.out hlb.out.small N2.out).mono ?_
      rintro e w9 ⟨rfl, hb9⟩
      have F2c := keep (F2b.out.after hb9)
      have F1c := keep (F1b.out.after hb9)
      have B9 := keep (B8.out.trans (hb9.mono B8.out.size))
      clear hb9
      go_wp2_with fail
      go_ret3
      exact ⟨la, lb, g1, _, g2, _, hla.out, hlb.out, rfl, F1c.out, F2c.out, B9.out⟩
end Go.Proofs.Ytdonmboidpppmaa
namespace Go.Proofs.Ytdonmboidpppmaa
open Go.RowKit Go.Sort Ieee
set_option linter.unusedSimpArgs false
set_option linter.unusedVariables false

/-! ### StartBack -/
/-- A speed that is pushed back by half a tick; the place stays. -/
def StartW (W H : Nat) (F1 F2 : List Nat) (mag tick : Nat) (p p' : PD) : Prop := ∃ rx ry cx cy fx fy h, AtW W H p.a p.b rx ry cx cy ∧ GatW W H rx ry cx cy F1 fx ∧ GatW W H rx ry cx cy F2 fy ∧ Nm single fx ∧ Nm single fy ∧ floatBits .quo .f32 tick 1073741824 = some h ∧ Nm single h ∧ PushW p.c p.d p.q p.m fx fy mag (Op.negFloat .f32 h) p'.c p'.d ∧ Nm single p'.c ∧ Nm single p'.d ∧ p'.a = p.a ∧ p'.b = p.b ∧ p'.q = p.q ∧ p'.m = p.m
def StartL (W H : Nat) (F1 F2 : List Nat) (mag tick : Nat) (ps qs : List PD) : Prop := qs.length = ps.length ∧ ∀ (i : Nat) (h : i < ps.length) (h' : i < qs.length), StartW W H F1 F2 mag tick ps[i] qs[i]

set_option maxHeartbeats 8000000 in
set_option maxRecDepth 20000 in
theorem bStartC {W H : Nat} {F1 F2 : List Nat} {mag tick : Nat} {p p' : PD} (hS : Sides W H) (nmag : Nm single mag) (nt : Nm single tick) (hV : PNm p.a p.b p.c p.d p.q p.m) (hL : StartW W H F1 F2 mag tick p p') (g1 g2 q1 q2 : Nat) (hl1 : F1.length = W * H) (hl2 : F2.length = W * H) (b0 b1 b2 b3 b4 : Nat) (w : World) (K : Cap w b0 b1 b2 b3 b4 W H g1 q1 g2 q2 mag tick) (hh1 : FldW w g1 F1) (hh2 : FldW w g2 F2) :
    Calls Try.prog 40 #[.agg #[.complex .f32 p.a p.b, .complex .f32 p.c p.d, .float .f32 p.q, .float .f32 p.m], .pointer (some ⟨b0, 0, none⟩), .pointer (some ⟨b1, 0, none⟩), .pointer (some ⟨b2, 0, none⟩), .pointer (some ⟨b3, 0, none⟩), .pointer (some ⟨b4, 0, none⟩)] w fun e w' => e = .returned (.tuple #[.agg #[.complex .f32 p'.a p'.b, .complex .f32 p'.c p'.d, .float .f32 p'.q, .float .f32 p'.m], .bool true]) ∧ Below w.heap.size w w' := by
  obtain ⟨x0, y0, u, v, q0, m0⟩ := p
  obtain ⟨x, y, u', v', q, m⟩ := p'
  obtain ⟨rx, ry, cx, cy, fx, fy, h, hA, hG1, hG2, n1, n2, eh, nh, hP, n3, n4, rfl, rfl, rfl, rfl⟩ := hL
  dsimp only at *
  have f1 := zrun eh
  have f2 := znegf h
  have GT := keep (fun w h1 h2 => bGatherTwo hS hV.hx hV.hy hA hG1 hG2 g1 g2 q1 q2 hl1 hl2 w h1 h2)
  have PS := keep (fun w => bPushSpeed hV n1 n2 nmag (neg32_V nh).1 hP n3 n4 w)
  obtain ⟨W0, eW, HA, HZ, BW⟩ := two_madeT w 41 41 (pC x y u v q m) (pC 0 0 0 0 0 0)
  have HA0 := keep HA
  have HZ0 := keep HZ
  have B0 := keep BW
  have X0 := keep (hh1.after BW)
  have Y0 := keep (hh2.after BW)
  have EW := keep eW
  have K0 := keep (K.after BW)
  have kA := HA.cells
  have k0 := K0.out.h0.cells
  have k1 := K0.out.h1.cells
  have k2 := K0.out.h2.cells
  have k3 := K0.out.h3.cells
  have k4 := K0.out.h4.cells
  clear eW HA HZ BW hh1 hh2 hS nmag nt hV hA hG1 hG2 n1 n2 eh nh hP n3 n4 K hl1 hl2
  unfold pAgg at PS
  unfold gridV at GT
  unfold pC at *
  generalize hn : W * H = n at *
  go_enter Try.func40, Try.ntmps40
  go_upto_region 1 with fail
  rw [← EW.out]
  clear EW
  go_wp2_with fail
  refine (GT.out _ X0.out Y0.out).mono ?_
  rintro e w1 ⟨rfl, hb⟩
  have HA1 := keep (HA0.out.after hb)
  have HZ1 := keep (HZ0.out.after hb)
  have K1 := keep (K0.out.after hb)
  have B1 := keep (B0.out.trans (hb.mono B0.out.size))
  clear hb HA0 HZ0 B0 X0 Y0 K0 kA k0 k1 k2 k3 k4 GT
  have kA := HA1.out.cells
  have k3 := K1.out.h3.cells
  have k4 := K1.out.h4.cells
  go_wp2_with fail
  refine (PS.out _).mono ?_
  rintro e w2 ⟨rfl, hb⟩
  have HA2 := keep (HA1.out.after hb)
  have HZ2 := keep (HZ1.out.after hb)
  have B2 := keep (B1.out.trans (hb.mono B1.out.size))
  clear hb HA1 HZ1 B1 K1 kA k3 k4 PS f1 f2
  have kA := HA2.out.cells
  have uA := HA2.out.free
  have lA := HA2.out.in_heap
  have HAf : Kept (Has (w2.setCell ⟨w.heap.size, 1, none⟩ (.complex .f32 u' v')) w.heap.size 41 #[.complex .f32 x y, .complex .f32 u' v', .float .f32 q, .float .f32 m]) := keep (HA2.out.written 1 (.complex .f32 u' v'))
  have HZf := keep (HZ2.out.elsewhere (p := ⟨w.heap.size, 1, none⟩) (by show w.heap.size + 1 ≠ w.heap.size; omega) (.complex .f32 u' v'))
  have Bf := keep (B2.out.setCell (p := ⟨w.heap.size, 1, none⟩) (Nat.le_refl _) (.complex .f32 u' v'))
  go_upto_region 4 with fail
  clear HA2 HZ2 B2 kA uA lA
  generalize w2.setCell ⟨w.heap.size, 1, none⟩ (.complex .f32 u' v') = wf at *
  have kA := HAf.out.cells
  have kZ := HZf.out.cells
  have uZ := HZf.out.free
  have lZ := HZf.out.in_heap
  have E1 := keep (set4_has HZf.out (.complex .f32 x y) (.complex .f32 u' v') (.float .f32 q) (.float .f32 m))
  have E2 := keep (set4_below Bf.out (g := w.heap.size + 1) (by omega) (.complex .f32 x y) (.complex .f32 u' v') (.float .f32 q) (.float .f32 m))
  obtain ⟨X, hX⟩ : ∃ X, X = set4 wf (w.heap.size + 1) (.complex .f32 x y) (.complex .f32 u' v') (.float .f32 q) (.float .f32 m) := ⟨_, rfl⟩
  rw [← hX] at E1 E2
  unfold set4 at hX
  go_wp2_with fail
  rw [← hX]
  clear hX kA kZ uZ lZ HAf HZf Bf
  have c1 := E1.out.cells
  exact bodyPost_ret (v := .tuple #[.agg #[.complex .f32 x y, .complex .f32 u' v', .float .f32 q, .float .f32 m], .bool true]) (by simp [results, Try.results40, go_sem, c1]; try rfl) rfl ⟨rfl, E2.out⟩

set_option maxHeartbeats 4000000 in
set_option maxRecDepth 20000 in
theorem bStartBack {W H : Nat} {F1 F2 : List Nat} {mag tick : Nat} {ps qs : List PD} {Bd : Rat} (hS : Sides W H) (nmag : Nm single mag) (nt : Nm single tick) (hV : AllW Bd ps) (hL : StartL W H F1 F2 mag tick ps qs) (g1 g2 q1 q2 : Nat) (hl1 : F1.length = W * H) (hl2 : F2.length = W * H) (hN : ps.length ≤ 64) (B : Nat) (v : Value) (w : World) (hown : w.ownsRow B 41 4 v ps.length (psCells ps)) (hh1 : FldW w g1 F1) (hh2 : FldW w g2 F2) :
    Calls Try.prog 9 #[gridV W H, v, .slice (some ⟨g1, 0, none⟩) (W * H) q1, .slice (some ⟨g2, 0, none⟩) (W * H) q2, .float .f32 mag, .float .f32 tick] w fun e w' => ∃ (A : Option Addr) (c : Nat), e = .returned (.tuple #[.slice A ps.length c, .bool true]) ∧ w'.ownsRow w.heap.size 41 4 (.slice A ps.length c) ps.length (psCells qs) ∧ Below w.heap.size w w' := by
  obtain ⟨W0, eW, H0, H1, H2, H3, H4, BW⟩ := five_made w 25 29 29 32 32 #[.int .i64 W, .int .i64 H] #[.slice (some ⟨g1, 0, none⟩) (W * H) q1] #[.slice (some ⟨g2, 0, none⟩) (W * H) q2] #[.float .f32 mag] #[.float .f32 tick]
  have K0 : Cap W0 w.heap.size (w.heap.size + 1) (w.heap.size + 1 + 1) (w.heap.size + 1 + 1 + 1) (w.heap.size + 1 + 1 + 1 + 1) W H g1 q1 g2 q2 mag tick := ⟨H0, H1, H2, H3, H4⟩
  have MA := keep (fun w => bisMagnet W H hS (some ⟨g1, 0, none⟩) (some ⟨g2, 0, none⟩) q1 q2 mag tick nmag nt w)
  have AP := keep (fun w h => AreParticles_ok B v ps w h hV.ok hN)
  have AL := keep (fun (b0 b1 b2 b3 b4 : Nat) (w : World) (K : Cap w b0 b1 b2 b3 b4 W H g1 q1 g2 q2 mag tick) (x : FldW w g1 F1) (y : FldW w g2 F2) h => ball_StartBack B v ps qs hL.1 b0 b1 b2 b3 b4 w h hN (fun i hi hq w' hb => bStartC hS nmag nt (hV _ (List.getElem_mem hi)).pnm (hL.2 i hi hq) g1 g2 q1 q2 hl1 hl2 b0 b1 b2 b3 b4 w' (K.after hb) (x.after hb) (y.after hb)))
  have X0 := keep (hh1.after BW)
  have Y0 := keep (hh2.after BW)
  have O0 := keep (owns_below hown BW)
  have B0 := keep BW
  have EW := keep eW
  have KK := keep K0
  have hmf : ∀ (fn : Fn) (first cap : Array Value) (w : World), (Instr.makeFunc fn first cap).run Try.prog w = .ok (.func fn first cap) w := fun _ _ _ _ => rfl
  obtain ⟨A, c, rfl⟩ := own_slice hown
  have k0 := K0.h0.cells
  have k1 := K0.h1.cells
  have k2 := K0.h2.cells
  have k3 := K0.h3.cells
  have k4 := K0.h4.cells
  clear eW H0 H1 H2 H3 H4 BW K0 hown hh1 hh2 hS nmag nt hV hL hl1 hl2 hN
  unfold gridV at *
  generalize hn : W * H = n at *
  go_enter Try.func9, Try.ntmps9
  go_wp2_with fail
  rw [← EW.out]
  clear EW
  refine (MA.out _).mono ?_
  rintro e w1 ⟨rfl, hb⟩
  have K1 := keep (KK.out.after hb)
  have X1 := keep (X0.out.after hb)
  have Y1 := keep (Y0.out.after hb)
  have O1 := keep (owns_below O0.out hb)
  have B1 := keep (B0.out.trans (hb.mono B0.out.size))
  clear hb KK X0 Y0 O0 B0 k0 k1 k2 k3 k4 MA
  go_wp2_with fail
  refine (AP.out _ O1.out).mono ?_
  rintro e w2 ⟨rfl, hb⟩
  have K2 := keep (K1.out.after hb)
  have X2 := keep (X1.out.after hb)
  have Y2 := keep (Y1.out.after hb)
  have O2 := keep (owns_below O1.out hb)
  have B2 := keep (B1.out.trans (hb.mono B1.out.size))
  clear hb K1 X1 Y1 O1 B1 AP
  go_wp2_with fail
  refine (AL.out _ _ _ _ _ _ K2.out X2.out Y2.out O2.out).mono ?_
  rintro e w3 ⟨D, d, rfl, ho, hb⟩
  have O3 := keep (own_base ho B2.out.size)
  have B3 := keep (B2.out.trans (hb.mono B2.out.size))
  clear hb ho K2 X2 Y2 O2 B2 AL hmf
  go_wp2_with fail
  go_ret2
  exact ⟨D, d, rfl, O3.out, B3.out⟩

set_option maxHeartbeats 4000000 in
set_option maxRecDepth 20000 in
theorem bWayOfLeap {W H x y u v q m x2 y2 u2 v2 q2 m2 a b : Nat} (hS : Sides W H) (P : PNm x y u v q m) (Q : PNm x2 y2 u2 v2 q2 m2) (hW : BetwP W H x y x2 y2 a b) (w : World) :
    Calls Try.prog 16 #[gridV W H, pAgg x y u v q m, pAgg x2 y2 u2 v2 q2 m2] w fun e w' => e = .returned (.tuple #[.complex .f32 a b, .bool true]) ∧ Below w.heap.size w w' := by
  have V1 := keep (fun w => P.valid w)
  have V2 := keep (fun w => Q.valid w)
  have WB := keep (fun w => bWayBetween hS P.hx P.hy Q.hx Q.hy hW w)
  obtain ⟨W0, eW, HG, HA, HZ, BW⟩ := three_made w 25 41 41 #[.int .i64 W, .int .i64 H] (pC x y u v q m) (pC x2 y2 u2 v2 q2 m2)
  have HG0 := keep HG
  have HA0 := keep HA
  have HZ0 := keep HZ
  have B0 := keep BW
  have EW := keep eW
  clear eW HG HA HZ BW hS P Q hW
  unfold pC pAgg gridV at *
  have kG := HG0.out.cells
  have kA := HA0.out.cells
  have kZ := HZ0.out.cells
  go_enter Try.func16, Try.ntmps16
  go_wp2_with fail
  rw [← EW.out]
  clear EW
  refine (V1.out _).mono ?_
  rintro e w1 ⟨rfl, hb⟩
  have HG1 := keep (HG0.out.after hb)
  have HA1 := keep (HA0.out.after hb)
  have HZ1 := keep (HZ0.out.after hb)
  have B1 := keep (B0.out.trans (hb.mono B0.out.size))
  clear hb kG kA kZ HG0 HA0 HZ0 B0
  have kG := HG1.out.cells
  have kA := HA1.out.cells
  have kZ := HZ1.out.cells
  go_wp2_with fail
  refine (V2.out _).mono ?_
  rintro e w2 ⟨rfl, hb⟩
  have HG2 := keep (HG1.out.after hb)
  have HA2 := keep (HA1.out.after hb)
  have HZ2 := keep (HZ1.out.after hb)
  have B2 := keep (B1.out.trans (hb.mono B1.out.size))
  clear hb kG kA kZ HG1 HA1 HZ1 B1
  have kG := HG2.out.cells
  have kA := HA2.out.cells
  have kZ := HZ2.out.cells
  go_wp2_with fail
  refine (WB.out _).mono ?_
  rintro e w3 ⟨rfl, hb⟩
  have HG3 := keep (HG2.out.after hb)
  have HA3 := keep (HA2.out.after hb)
  have HZ3 := keep (HZ2.out.after hb)
  have B3 := keep (B2.out.trans (hb.mono B2.out.size))
  clear hb kG kA kZ HG2 HA2 HZ2 B2
  have kG := HG3.out.cells
  have kA := HA3.out.cells
  have kZ := HZ3.out.cells
  go_wp2_with fail
  go_ret2
  exact ⟨rfl, B3.out⟩

set_option maxHeartbeats 4000000 in
set_option maxRecDepth 20000 in
theorem bSpeedBetween {W H x y u v q m x2 y2 u2 v2 q2 m2 a b tick iv r s : Nat} (hS : Sides W H) (P : PNm x y u v q m) (Q : PNm x2 y2 u2 v2 q2 m2) (hW : BetwP W H x y x2 y2 a b) (nt : Nm single tick) (ei : floatBits .quo .f32 1065353216 tick = some iv) (er : floatBits .mul .f32 a iv = some r) (es : floatBits .mul .f32 b iv = some s) (nr : Nm single r) (ns : Nm single s) (w : World) :
    Calls Try.prog 17 #[gridV W H, pAgg x y u v q m, pAgg x2 y2 u2 v2 q2 m2, .float .f32 tick] w fun e w' => e = .returned (.tuple #[.complex .f32 r s, .bool true]) ∧ Below w.heap.size w w' := by
  have WL := keep (fun w => bWayOfLeap hS P Q hW w)
  have f1 := zrun ei
  have SC := keep (fun w => toB (zScale a b iv r s er es w))
  have IF := keep (fun w => toBN (bIsF tick nt w))
  have FC := keep (fun w => toBN (bfiniteC r s nr ns w))
  obtain ⟨W0, eW, HG, HA, HZ, BW⟩ := three_made w 25 41 41 #[.int .i64 W, .int .i64 H] (pC x y u v q m) (pC x2 y2 u2 v2 q2 m2)
  have HG0 := keep HG
  have HA0 := keep HA
  have HZ0 := keep HZ
  have B0 := keep BW
  have EW := keep eW
  clear eW HG HA HZ BW hS P Q hW nt ei er es nr ns
  unfold pC pAgg gridV at *
  have kG := HG0.out.cells
  have kA := HA0.out.cells
  have kZ := HZ0.out.cells
  go_enter Try.func17, Try.ntmps17
  go_wp2_with fail
  rw [← EW.out]
  clear EW
  refine (WL.out _).mono ?_
  rintro e w1 ⟨rfl, hb⟩
  have HG1 := keep (HG0.out.after hb)
  have HA1 := keep (HA0.out.after hb)
  have HZ1 := keep (HZ0.out.after hb)
  have B1 := keep (B0.out.trans (hb.mono B0.out.size))
  clear hb kG kA kZ HG0 HA0 HZ0 B0
  have kG := HG1.out.cells
  have kA := HA1.out.cells
  have kZ := HZ1.out.cells
  go_wp2_with fail
  refine (SC.out _).mono ?_
  rintro e w2 ⟨rfl, hb⟩
  have HG2 := keep (HG1.out.after hb)
  have HA2 := keep (HA1.out.after hb)
  have HZ2 := keep (HZ1.out.after hb)
  have B2 := keep (B1.out.trans (hb.mono B1.out.size))
  clear hb kG kA kZ HG1 HA1 HZ1 B1
  have kG := HG2.out.cells
  have kA := HA2.out.cells
  have kZ := HZ2.out.cells
  go_wp2_with fail
  refine (IF.out _).mono ?_
  rintro e w3 ⟨rfl, hb⟩
  have HG3 := keep (HG2.out.after hb)
  have HA3 := keep (HA2.out.after hb)
  have HZ3 := keep (HZ2.out.after hb)
  have B3 := keep (B2.out.trans (hb.mono B2.out.size))
  clear hb kG kA kZ HG2 HA2 HZ2 B2
  have kG := HG3.out.cells
  have kA := HA3.out.cells
  have kZ := HZ3.out.cells
  go_wp2_with fail
  refine (FC.out _).mono ?_
  rintro e w4 ⟨rfl, hb⟩
  have HG4 := keep (HG3.out.after hb)
  have HA4 := keep (HA3.out.after hb)
  have HZ4 := keep (HZ3.out.after hb)
  have B4 := keep (B3.out.trans (hb.mono B3.out.size))
  clear hb kG kA kZ HG3 HA3 HZ3 B3
  have kG := HG4.out.cells
  have kA := HA4.out.cells
  have kZ := HZ4.out.cells
  go_wp2_with fail
  go_ret2
  exact ⟨rfl, B4.out⟩
end Go.Proofs.Ytdonmboidpppmaa
namespace Go.Proofs.Ytdonmboidpppmaa
open Go.RowKit Go.Sort Ieee
set_option linter.unusedSimpArgs false
set_option linter.unusedVariables false

def mxs (s t : Nat) : Nat := match single.order s t with
  | some .lt => t
  | some .gt => s
  | _ => if (single.read s).neg then t else s
theorem mxs_V {s t : Nat} (ns : Nm single s) (nt : Nm single t) : Nm single (mxs s t) ∧ V single s ≤ V single (mxs s t) ∧ V single t ≤ V single (mxs s t) ∧ (V single (mxs s t) = V single s ∨ V single (mxs s t) = V single t) := by
  have o := order_V ns nt
  unfold mxs
  rw [o]
  by_cases h1 : V single s < V single t
  · rw [if_pos h1]
    exact ⟨nt, by grind, by grind, .inr rfl⟩
  · rw [if_neg h1]
    by_cases h2 : V single s = V single t
    · rw [if_pos h2]
      simp only
      split
      · exact ⟨nt, by grind, by grind, .inr rfl⟩
      · exact ⟨ns, by grind, by grind, .inl rfl⟩
    · rw [if_neg h2]
      exact ⟨ns, by grind, by grind, .inl rfl⟩
theorem brun_maxs (x y : Nat) (nx : Nm single x) (ny : Nm single y) (ts : Array TypeId) (t : TypeId) (w : World) : (Builtin.max_ ts t #[.float .f32 x, .float .f32 y]).run Try.prog w = .ok (.float .f32 (mxs x y)) w := by
  have o := order_V nx ny
  unfold mxs
  split
  · rename_i h; simp [Builtin.max_, Builtin.max2, show FloatKind.f32.format.order x y = some .lt from h]
  · rename_i h; simp [Builtin.max_, Builtin.max2, show FloatKind.f32.format.order x y = some .gt from h]
  · rename_i h1 h2
    have h : FloatKind.f32.format.order x y = some .eq := by
      show single.order x y = some .eq
      rw [o] at h1 h2 ⊢
      grind
    simp [Builtin.max_, Builtin.max2, h, FloatKind.decode]
    rfl
/-- The length of a way in a tick. -/
structure WayL (p : PD) (tick sx sy L : Nat) : Prop where
  ex : floatBits .mul .f32 p.c tick = some sx
  ey : floatBits .mul .f32 p.d tick = some sy
  long : LongW sx sy L
  nm : Nm single L

set_option maxHeartbeats 4000000 in
set_option maxRecDepth 20000 in
theorem bLongest {tick : Nat} {Bd : Rat} (nt : Nm single tick) (ps : List PD) (Ls : List Nat) (hl : Ls.length = ps.length) (hV : AllW Bd ps) (hs : ∀ (i : Nat) (h : i < ps.length) (h' : i < Ls.length), ∃ sx sy, WayL ps[i] tick sx sy Ls[i]) (hU : ∀ (i : Nat) (h : i < Ls.length), V single Ls[i] ≤ 4) (hN : ps.length ≤ 64) (B : Nat) (v : Value) (w : World) (hown : w.ownsRow B 41 4 v ps.length (psCells ps)) :
    Calls Try.prog 10 #[v, .float .f32 tick] w fun e w' => ∃ mo, e = .returned (.tuple #[.float .f32 mo, .bool true]) ∧ Nm single mo ∧ (∀ (i : Nat) (h : i < Ls.length), V single Ls[i] ≤ V single mo) ∧ V single mo ≤ 4 ∧ Below w.heap.size w w' := by
  have AP := keep (AreParticles_ok B v ps w hown hV.ok hN)
  have IF := keep (fun w => toBN (bIsF tick nt w))
  have IL := keep (fun L (n : Nm single L) w => toBN (bIsF L n w))
  have HS := keep hs
  have HU := keep hU
  have HL := keep hl
  have O0 := keep hown
  obtain ⟨A, c, rfl⟩ := own_slice hown
  clear hown hs hl hV nt hU
  go_enter Try.func10, Try.ntmps10
  go_wp2_with fail
  refine AP.out.mono ?_
  rintro e w1 ⟨rfl, hb⟩
  have O1 := keep (owns_below O0.out hb)
  have B1 := keep hb
  clear hb O0 AP
  go_wp2_with fail
  refine (IF.out _).mono ?_
  rintro e w2 ⟨rfl, hb⟩
  have O2 := keep (owns_below O1.out hb)
  have B2 := keep (B1.out.trans (hb.mono B1.out.size))
  clear hb O1 B1 IF
  go_wp2_with fail
  go_loopw [20, 6] (fun s t wr => ∃ (i mo : Nat), i ≤ ps.length ∧ s = .int .i64 i ∧ t = .float .f32 mo ∧ Kept (Nm single mo ∧ V single mo ≤ 4) ∧ Kept (∀ (j : Nat) (h : j < Ls.length), j < i → V single Ls[j] ≤ V single mo) ∧ Kept (wr.ownsRow B 41 4 (.slice A ps.length c) ps.length (psCells ps)) ∧ Kept (Below w.heap.size w wr)) (fun s _ _ => ps.length - (intOf s).toNat)
  case atStart => exact ⟨0, 0, Nat.zero_le _, rfl, rfl, keep ⟨nm_zero.1, by rw [nm_zero.2]; grind⟩, keep (fun j h hj => absurd hj (by omega)), O2, B2⟩
  case round =>
    clear O2 B2
    obtain ⟨i, mo, hi, rfl, rfl, hn, hm, hO, hb⟩ := hrel
    by_cases hlt : i < ps.length
    · have hl2 : i < Ls.length := by have := HL.out; omega
      obtain ⟨sx, sy, WL⟩ := HS.out i hlt hl2
      obtain ⟨g, rfl, lg, c0, c1, c2, c3⟩ := own_elem hO.out hlt ps[i] (fun j u hj hu => by rw [psCells_at _ i hlt j hj]; exact hu)
      have hstep := keep (fun (M : Nat) (h1 : V single mo ≤ V single M) (h2 : V single Ls[i] ≤ V single M) (j : Nat) (h : j < Ls.length) (hj : j < i + 1) => (show V single Ls[j] ≤ V single M from by
        rcases Nat.lt_or_eq_of_le (show j ≤ i by omega) with h3 | h3
        · exact Rat.le_trans (hm.out j h h3) h1
        · subst h3; exact h2))
      have nL := WL.nm
      have SC := keep (fun w => toB (zScale ps[i].c ps[i].d tick sx sy WL.ex WL.ey w))
      have LG := keep (fun w => toB (bLong WL.long w))
      have mv := keep (mxs_V hn.out.1 nL)
      have mr := fun ts t w => brun_maxs mo Ls[i] hn.out.1 nL ts t w
      have ILi := keep (fun w => IL.out Ls[i] nL w)
      have hb4 := keep (show V single (mxs mo Ls[i]) ≤ 4 from by have h4 := HU.out i hl2; have := hn.out.2; rcases mv.out.2.2.2 with h | h <;> rw [h] <;> assumption)
      clear WL nL
      generalize Ls[i] = L at *
      generalize ps[i] = p at *
      have hb1 := (Below.refl wr.heap.size wr).alloc (Nat.le_refl _) (.cells #[.complex .f32 p.a p.b, .complex .f32 p.c p.d, .float .f32 p.q, .float .f32 p.m] 41)
      have O3 := keep (owns_below hO.out hb1)
      have B3 := keep (hb.out.trans (hb1.mono hb.out.size))
      clear hb1 hO hb
      go_wp2_with fail
      refine (SC.out _).mono ?_
      rintro e w4 ⟨rfl, hb⟩
      have O4 := keep (owns_below O3.out hb)
      have B4 := keep (B3.out.trans (hb.mono B3.out.size))
      clear hb O3 B3 SC
      go_wp2_with fail
      refine (LG.out _).mono ?_
      rintro e w5 ⟨rfl, hb⟩
      have O5 := keep (owns_below O4.out hb)
      have B5 := keep (B4.out.trans (hb.mono B4.out.size))
      clear hb O4 B4 LG
      go_wp2_with fail
      refine (ILi.out _).mono ?_
      rintro e w6 ⟨rfl, hb⟩
      have O6 := keep (owns_below O5.out hb)
      have B6 := keep (B5.out.trans (hb.mono B5.out.size))
      clear hb O5 B5 ILi c0 c1 c2 c3
      go_wp2_with fail
      go_roundw
      case rel => exact ⟨i + 1, mxs mo L, by omega, by go_num, rfl, keep ⟨mv.out.1, hb4.out⟩, keep (fun j h hj => hstep.out _ mv.out.2.1 mv.out.2.2.1 j h hj), O6, B6⟩
      case measure => simp [intOf]; omega
    · obtain rfl : i = ps.length := by omega
      go_wp2_with fail
      go_ret2
      exact ⟨mo, rfl, hn.out.1, fun j h => hm.out j h (by have := HL.out; omega), hn.out.2, hb.out⟩
end Go.Proofs.Ytdonmboidpppmaa
namespace Go.Proofs.Ytdonmboidpppmaa
open Go Go.RowKit Ieee
set_option linter.unusedSimpArgs false
set_option linter.unusedVariables false

theorem nm_eighth : Nm single 1040187392 ∧ V single 1040187392 = 1 / 8 := ⟨⟨false, 8388608, -26, by decide +kernel⟩, by decide +kernel⟩
theorem nm_half : Nm single 1056964608 ∧ V single 1056964608 = 1 / 2 := ⟨⟨false, 8388608, -24, by decide +kernel⟩, by decide +kernel⟩
theorem nm_eight : Nm single 1090519040 ∧ V single 1090519040 = 8 := ⟨⟨false, 8388608, -20, by decide +kernel⟩, by decide +kernel⟩
theorem quo_eight : floatBits .quo .f32 1065353216 1040187392 = some 1090519040 := by decide +kernel
theorem quo_half : floatBits .quo .f32 1056964608 1073741824 = some 1048576000 := by decide +kernel
theorem nm_quarter : Nm single 1048576000 ∧ V single 1048576000 = 1 / 4 := ⟨⟨false, 8388608, -25, by decide +kernel⟩, by decide +kernel⟩
theorem neg_quarter : Op.negFloat .f32 1048576000 = 3196059648 := by decide +kernel
theorem nm_halfD : Nm double 4602678819172646912 ∧ V double 4602678819172646912 = 1 / 2 := ⟨⟨false, 4503599627370496, -53, by decide +kernel⟩, by decide +kernel⟩
theorem nm_m : Nm single 3196059648 ∧ V single 3196059648 = -(1 / 4) := by
  have h := neg32_V nm_quarter.1
  rw [neg_quarter, nm_quarter.2] at h
  exact h

/-- Any push of a particle in a field of bounded words runs. -/
theorem push_ex {p : PD} {B : Rat} {fx fy mag tick : Nat} (P0 : PW p B) (hB : B ≤ 800) (n1 : Nm single fx) (n2 : Nm single fy) (b1 : Cl (V single fx) 0 (9 / 4)) (b2 : Cl (V single fy) 0 (9 / 4)) (nmag : Nm single mag) (bmag : Cl (V single mag) 0 1) (nt : Nm single tick) (bt : Cl (V single tick) 0 1) : ∃ re im, PushW p.c p.d p.q p.m fx fy mag tick re im ∧ Nm single re ∧ Nm single im := by
  have B0 := P0.bc.nonneg
  obtain ⟨P, hh, PQ⟩ := pht_near P0.nq P0.nm nt P0.bq P0.m0 P0.m1 bt
  obtain ⟨tr, ti, _, _, x, y, t1, _, a1, a2, _, _, _⟩ := turn_pair PQ.H nt nmag bmag
  have u4 : p2 4 = 16 := by decide +kernel
  have l4 : ulp single 4 = 1 / 1048576 := by decide +kernel
  have u10 : p2 10 = 1024 := by decide +kernel
  have l10 : ulp single 10 = 1 / 16384 := by decide +kernel
  have u12 : p2 12 = 4096 := by decide +kernel
  have d12 : ulp double 12 = 1 / 2199023255552 := by decide +kernel
  have l12 : ulp single 12 = 1 / 4096 := by decide +kernel
  obtain ⟨c, kx, ky, KN⟩ := kick_near PQ.H n1 n2 (9 / 4) b1 b2 4 (ex_single (by decide) (by decide)) (by rw [u4]; grind)
  have q1 := b1.prod KN.bc
  have q2 := b2.prod KN.bc
  have k1 := KN.ckx
  have k2 := KN.cky
  rw [l4] at k1 k2
  have bk1 : Cl (V single kx) 0 14 := by unfold Cl at *; constructor <;> grind
  have bk2 : Cl (V single ky) 0 14 := by unfold Cl at *; constructor <;> grind
  obtain ⟨re, im, hp, nre, nim, _, _⟩ := push_near KN.w t1 P0.nc P0.nd KN.nkx KN.nky B 14 (B + 15) P0.bc P0.bd bk1 bk2 a1 a2 10 (ex_single (by decide) (by decide)) (by rw [u10]; grind) (by rw [l10]; grind) 12 (ex_double (by decide) (by decide)) (by rw [u12]; grind) (by rw [d12]; grind) 12 (ex_single (by decide) (by decide)) (by rw [u12]; grind) (by rw [l12]; grind) 1 (by rw [l10, d12, l12]; grind)
  exact ⟨re, im, hp, nre, nim⟩

/-- What is told of one particle. -/
structure STold (W H : Nat) (F1 F2 : List Nat) (p s p' : PD) (fx fy sx sy L L0 D0 d wa wb tx ty D1 r1 r2 D2 rx ry cx cy : Nat) : Prop where
  at_ : AtW W H p.a p.b rx ry cx cy
  g1 : GatW W H rx ry cx cy F1 fx
  g2 : GatW W H rx ry cx cy F2 fy
  n1 : Nm single fx
  n2 : Nm single fy
  start : StartW W H F1 F2 0 1056964608 p s
  push : PushW p.c p.d p.q p.m fx fy 0 3196059648 s.c s.d
  nsc : Nm single s.c
  nsd : Nm single s.d
  sa : s.a = p.a
  sb : s.b = p.b
  way : WayL p 1056964608 sx sy L
  long : LongW p.c p.d L0
  wide : floatToFloatBits .f32 L0 .f64 = some D0
  half : floatBits .mul .f64 D0 4602678819172646912 = some d
  lbd : V single L ≤ 4
  less : ∀ mo, Nm single mo → V single L ≤ V single mo → V single mo ≤ 4 → ∃ M s, floatToFloatBits .f32 mo .f64 = some M ∧ floatBits .add .f64 M 4562254508917369340 = some s ∧ (FloatKind.f64.format.order d s == some .gt) = false
  leap : LeapW W H F1 F2 0 1040187392 p p'
  pv : PNm p.a p.b p.c p.d p.q p.m
  pv' : PNm p'.a p'.b p'.c p'.d p'.q p'.m
  betw : BetwP W H p.a p.b p'.a p'.b wa wb
  mx : floatBits .mul .f32 p'.c 1040187392 = some tx
  my : floatBits .mul .f32 p'.d 1040187392 = some ty
  ap1 : ApartW wa wb tx ty D1
  sm1 : (FloatKind.f64.format.order D1 4562254508917369340 == some .gt) = false
  er : floatBits .mul .f32 wa 1090519040 = some r1
  es : floatBits .mul .f32 wb 1090519040 = some r2
  nr : Nm single r1
  ns : Nm single r2
  ap2 : ApartW r1 r2 p'.c p'.d D2
  sm2 : (FloatKind.f64.format.order D2 4576918229304087675 == some .gt) = false
/-- Half of a length, against the length of the half. -/
theorem half_long {p : PD} (P0 : PW p 1) : ∃ sx sy L L0 D0 d, WayL p 1056964608 sx sy L ∧ V single L ≤ 4 ∧ LongW p.c p.d L0 ∧ floatToFloatBits .f32 L0 .f64 = some D0 ∧ floatBits .mul .f64 D0 4602678819172646912 = some d ∧ ∀ mo, Nm single mo → V single L ≤ V single mo → V single mo ≤ 4 → ∃ M s, floatToFloatBits .f32 mo .f64 = some M ∧ floatBits .add .f64 M 4562254508917369340 = some s ∧ (FloatKind.f64.format.order d s == some .gt) = false := by
  have u0 : p2 0 = 1 := by decide +kernel
  have s0 : ulp single 0 = 1 / 16777216 := by decide +kernel
  have u3 : p2 3 = 8 := by decide +kernel
  have d3 : ulp double 3 = 1 / 1125899906842624 := by decide +kernel
  obtain ⟨nh, vh⟩ := nm_half
  obtain ⟨nH, vH⟩ := nm_halfD
  have bh : Cl (V single 1056964608) 0 1 := by rw [vh]; unfold Cl; constructor <;> grind
  have q1 := P0.bc.prod bh
  have q2 := P0.bd.prod bh
  obtain ⟨sx, e1, m1, c1, _⟩ := mul_near good_single P0.nc nh 0 (by rw [u0]; exact q1.mono (by grind)) (ex_single (by decide) (by decide))
  obtain ⟨sy, e2, m2, c2, _⟩ := mul_near good_single P0.nd nh 0 (by rw [u0]; exact q2.mono (by grind)) (ex_single (by decide) (by decide))
  rw [s0, vh] at c1 c2
  have bc := P0.bc
  have bd := P0.bd
  obtain ⟨L, hL, len⟩ := long2 m1 m2 (by unfold Cl at c1 bc ⊢; constructor <;> grind) (by unfold Cl at c2 bd ⊢; constructor <;> grind)
  obtain ⟨L0, hL0, len0⟩ := long2 P0.nc P0.nd (bc.mono (by grind)) (bd.mono (by grind))
  obtain ⟨D0, hD, nD, vD⟩ := widen_V len0.nm
  have up0 := len0.high 2 (by grind) (by
    have a := bc.prod bc
    have b := bd.prod bd
    unfold Cl at a b
    grind)
  have p0 := len0.pos
  obtain ⟨d, hd, nd, cd, _⟩ := mul_near good_double nD nH 3 (by rw [u3, vD, vH]; unfold Cl; constructor <;> grind) (ex_double (by decide) (by decide))
  rw [d3, vD, vH] at cd
  have upL := len.high 2 (by grind) (by
    have bx : Cl (V single sx) 0 1 := by unfold Cl at c1 bc ⊢; constructor <;> grind
    have bY : Cl (V single sy) 0 1 := by unfold Cl at c2 bd ⊢; constructor <;> grind
    have a := bx.prod bx
    have b := bY.prod bY
    unfold Cl at a b
    grind)
  refine ⟨sx, sy, L, L0, D0, d, ⟨e1, e2, hL, len.nm⟩, by grind, hL0, hD, hd, fun mo nmo hmo hm4 => ?_⟩
  have key : V single L0 * (1 / 2) ≤ V single L + 9 / 10000 := by
    have sq := len.sq (by have := len.pos; grind)
    have z1 := c1.zero_of
    have z2 := c2.zero_of
    have r1 := z1.prod (show Cl (V single sx + V single p.c * (1 / 2)) 0 2 by unfold Cl at c1 bc ⊢; constructor <;> grind)
    have r2 := z2.prod (show Cl (V single sy + V single p.d * (1 / 2)) 0 2 by unfold Cl at c2 bd ⊢; constructor <;> grind)
    have e3 : (V single sx - V single p.c * (1 / 2)) * (V single sx + V single p.c * (1 / 2)) = V single sx * V single sx - V single p.c * V single p.c * (1 / 4) := by grind
    have e4 : (V single sy - V single p.d * (1 / 2)) * (V single sy + V single p.d * (1 / 2)) = V single sy * V single sy - V single p.d * V single p.d * (1 / 4) := by grind
    rw [e3] at r1
    rw [e4] at r2
    have pl := len.pos
    generalize hz : V single L + 1 / 1000000 = z at *
    have z0 : 0 ≤ z := by grind
    have vle : V single p.c * V single p.c + V single p.d * V single p.d ≤ (2 * z + 11 / 10000) * (2 * z + 11 / 10000) := by
      have e5 : (2 * z + 11 / 10000) * (2 * z + 11 / 10000) = 4 * (z * z) + 44 / 10000 * z + 121 / 100000000 := by grind
      rw [e5]
      unfold Cl at r1 r2
      grind
    have := len0.high (2 * z + 11 / 10000) (by grind) vle
    grind
  obtain ⟨M, hM, nM, vM⟩ := widen_V nmo
  obtain ⟨nc, c3, c4⟩ := c001
  have mo0 : 0 ≤ V single mo := by have := len.pos; grind
  obtain ⟨s, hs, nsm, cs, _⟩ := add_near good_double nM nc 3 (by rw [u3, vM]; unfold Cl; constructor <;> grind) (ex_double (by decide) (by decide))
  rw [d3, vM] at cs
  refine ⟨M, s, hM, hs, not_gt nd nsm ?_⟩
  unfold Cl at cd cs
  grind
theorem start_told {W H : Nat} {F1 F2 : List Nat} {p : PD} (h : Sides W H) (f1 : Fld W H F1) (f2 : Fld W H F2) (P0 : PW p 1) : ∃ s p' fx fy sx sy L L0 D0 d wa wb tx ty D1 r1 r2 D2 rx ry cx cy, STold W H F1 F2 p s p' fx fy sx sy L L0 D0 d wa wb tx ty D1 r1 r2 D2 rx ry cx cy := by
  obtain ⟨rx, ry, cx, cy, A⟩ := at_near h P0.na P0.nb (P0.ba.mono (by grind)) (P0.bb.mono (by grind))
  obtain ⟨fx, g1, n1, _, b1⟩ := gat_near h A f1
  obtain ⟨fy, g2, n2, _, b2⟩ := gat_near h A f2
  obtain ⟨z0, vz⟩ := nm_zero
  have bz : Cl (V single 0) 0 1 := by rw [vz]; unfold Cl; constructor <;> grind
  obtain ⟨ne8, v8⟩ := nm_eighth
  have b8 : Cl (V single 1040187392) 0 1 := by rw [v8]; unfold Cl; constructor <;> grind
  obtain ⟨nm', vm'⟩ := nm_m
  have bm : Cl (V single 3196059648) 0 1 := by rw [vm']; unfold Cl; constructor <;> grind
  obtain ⟨sc, sd, hp, nsc, nsd⟩ := push_ex (mag := 0) (tick := 3196059648) P0 (by grind) n1 n2 b1 b2 z0 bz nm' bm
  obtain ⟨sx, sy, L, L0, D0, d, wl, l4, hL0, hD0, hd, less⟩ := half_long P0
  -- the leap of an eighth of a tick
  obtain ⟨P, hh, PQ⟩ := pht_near P0.nq P0.nm ne8 P0.bq P0.m0 P0.m1 b8
  have hq := PQ.H.half
  have vh : Cl (V single hh) (1 / 16) (1 / 1000000) := by
    have u0 : p2 0 = 1 := by decide +kernel
    have l2 : ulp single (0 + 2) = 1 / 4194304 := by decide +kernel
    have e2 : V single 1040187392 / 2 * V single 1073741824 = V single 1040187392 := by rw [nm_two.2]; grind
    obtain ⟨h', e', _, c', _⟩ := div_near good_single ne8 nm_two.1 (by rw [nm_two.2]; decide) 0 _ e2 (by rw [u0, v8]; unfold Cl; constructor <;> grind) (ex_single (by decide) (by decide)) (by decide)
    have : some h' = some hh := e'.symm.trans hq
    injection this with this
    subst this
    rw [v8, l2] at c'
    unfold Cl at c' ⊢
    constructor <;> grind
  obtain ⟨tr, ti, _, _, x, y, t1, _, a1, a2, _, _, _⟩ := turn_pair PQ.H ne8 z0 bz
  have u4 : p2 4 = 16 := by decide +kernel
  have l4' : ulp single 4 = 1 / 1048576 := by decide +kernel
  have u7 : p2 7 = 128 := by decide +kernel
  have d7 : ulp double 7 = 1 / 70368744177664 := by decide +kernel
  have u6 : p2 6 = 64 := by decide +kernel
  have l6 : ulp single 6 = 1 / 262144 := by decide +kernel
  obtain ⟨c, kx, ky, KN⟩ := kick_near PQ.H n1 n2 (9 / 4) b1 b2 4 (ex_single (by decide) (by decide)) (by rw [u4]; grind)
  have bh : Cl (V single hh) 0 (63 / 1000) := by unfold Cl at vh ⊢; constructor <;> grind
  have ph := PQ.bP.prod bh
  have bc : Cl (V single c) 0 (51 / 100) := by have := KN.cc; unfold Cl at *; constructor <;> grind
  have q1 := b1.prod bc
  have q2 := b2.prod bc
  have k1 := KN.ckx
  have k2 := KN.cky
  rw [l4'] at k1 k2
  have bk1 : Cl (V single kx) 0 (12 / 10) := by unfold Cl at q1 k1 ⊢; constructor <;> grind
  have bk2 : Cl (V single ky) 0 (12 / 10) := by unfold Cl at q2 k2 ⊢; constructor <;> grind
  obtain ⟨re, im, hpl, nre, nim, cre, cim⟩ := push_near KN.w t1 P0.nc P0.nd KN.nkx KN.nky 1 (12 / 10) 3 P0.bc P0.bd bk1 bk2 a1 a2 4 (ex_single (by decide) (by decide)) (by rw [u4]; grind) (by rw [l4']; grind) 7 (ex_double (by decide) (by decide)) (by rw [u7]; grind) (by rw [d7]; grind) 6 (ex_single (by decide) (by decide)) (by rw [u6]; grind) (by rw [l6]; grind) (1 / 1000) (by rw [l4', d7, l6]; grind)
  have s1 := (P0.bc.add bk1)
  have s2 := (P0.bd.add bk2)
  rw [show (0 : Rat) + 0 = 0 from by grind] at s1 s2
  have m1 := s1.prod a1.bd
  have m2 := s2.prod a2.bd
  have m3 := s1.prod a2.bd
  have m4 := s2.prod a1.bd
  have bre : Cl (V single re) 0 6 := by unfold Cl at m1 m2 bk1 cre ⊢; constructor <;> grind
  have bim : Cl (V single im) 0 6 := by unfold Cl at m3 m4 bk2 cim ⊢; constructor <;> grind
  clear m1 m2 m3 m4 cre cim q1 q2 k1 k2 s1 s2
  obtain ⟨zx, zy, hdr, ig, kxx, kyy⟩ := drift_near (tick := 1040187392) h P0.na P0.nb nre nim ne8 P0.ba P0.bb 6 bre bim b8 4 (ex_single (by decide) (by decide)) (by rw [u4]; grind) (by grind) (by rw [l4']; grind) (1 / 300000) (by rw [l4']; grind)
  obtain ⟨i1, i2⟩ := ing_bd h ig
  have bt1 := bre.prod b8
  have bt2 := bim.prod b8
  rw [v8] at bt1 bt2 kxx kyy
  have tb1 : Cl (V single re * (1 / 8)) 0 1 := by unfold Cl at bre ⊢; constructor <;> grind
  have tb2 : Cl (V single im * (1 / 8)) 0 1 := by unfold Cl at bim ⊢; constructor <;> grind
  obtain ⟨wa, wb, hbw, nwa, nwb, ca, cb⟩ := betw_to h P0.na P0.nb ig.nx ig.ny P0.ba P0.bb i1 i2 kxx kyy tb1 tb2 (by grind)
  have u0 : p2 0 = 1 := by decide +kernel
  have l0 : ulp single 0 = 1 / 16777216 := by decide +kernel
  have u3 : p2 3 = 8 := by decide +kernel
  have l3 : ulp single 3 = 1 / 2097152 := by decide +kernel
  have u5 : p2 4 = 16 := u4
  obtain ⟨tx, ex, ntx, ctx, _⟩ := mul_near good_single nre ne8 0 (by rw [u0, v8]; exact tb1) (ex_single (by decide) (by decide))
  obtain ⟨ty, ey, nty, cty, _⟩ := mul_near good_single nim ne8 0 (by rw [u0, v8]; exact tb2) (ex_single (by decide) (by decide))
  rw [l0, v8] at ctx cty
  obtain ⟨D1, hA1, nD1, _, dA1⟩ := apart_near nwa nwb ntx nty (1 / 90000) (by unfold Cl at ca ctx ⊢; constructor <;> grind) (by unfold Cl at cb cty ⊢; constructor <;> grind) (by grind)
  obtain ⟨nE, vE⟩ := nm_eight
  obtain ⟨r1, er, nr, cr, _⟩ := mul_near good_single nwa nE 4 (by rw [u4, vE]; unfold Cl at ca tb1 ⊢; constructor <;> grind) (ex_single (by decide) (by decide))
  obtain ⟨r2, es, ns, cs, _⟩ := mul_near good_single nwb nE 4 (by rw [u4, vE]; unfold Cl at cb tb2 ⊢; constructor <;> grind) (ex_single (by decide) (by decide))
  rw [l4', vE] at cr cs
  obtain ⟨D2, hA2, nD2, _, dA2⟩ := apart_near nr ns nre nim (1 / 1000) (by unfold Cl at ca cr ⊢; constructor <;> grind) (by unfold Cl at cb cs ⊢; constructor <;> grind) (by grind)
  obtain ⟨nc1, c3, _⟩ := c001
  obtain ⟨nc2, c4⟩ := c01
  have pv := P0.pnm
  refine ⟨⟨p.a, p.b, sc, sd, p.q, p.m⟩, ⟨zx, zy, re, im, p.q, p.m⟩, fx, fy, sx, sy, L, L0, D0, d, wa, wb, tx, ty, D1, r1, r2, D2, rx, ry, cx, cy, ⟨A, g1, g2, n1, n2, ⟨rx, ry, cx, cy, fx, fy, 1048576000, A, g1, g2, n1, n2, quo_half, nm_quarter.1, by rw [neg_quarter]; exact hp, nsc, nsd, rfl, rfl, rfl, rfl⟩, hp, nsc, nsd, rfl, rfl, wl, hL0, hD0, hd, l4, less, ⟨rx, ry, cx, cy, fx, fy, A, g1, g2, n1, n2, hpl, nre, nim, hdr, rfl, rfl⟩, pv, ⟨pv.p, ig.nx, ig.ny, nre, nim, pv.hq, pv.hm⟩, hbw, ex, ey, hA1, not_gt nD1 nc1 (by grind), er, es, nr, ns, hA2, not_gt nD2 nc2 (by grind)⟩⟩
end Go.Proofs.Ytdonmboidpppmaa
namespace Go.Proofs.Ytdonmboidpppmaa
open Go Go.RowKit Ieee
set_option linter.unusedSimpArgs false
set_option linter.unusedVariables false

theorem fWords_fld3 (W H : Nat) (fs : List Int) (hl : fs.length = W * H) (hs : Small fs 8) : Fld W H (fWords 3 fs) := by
  have key : ∀ z ∈ fWords 3 fs, Nm single z ∧ Cl (V single z) 0 2 := by
    intro z hz
    obtain ⟨n, hn, rfl⟩ := List.mem_map.1 hz
    have b := hs n hn
    obtain ⟨h1, h2⟩ := wd8 n (by omega) (by omega)
    refine ⟨h1, ?_⟩
    rw [h2]
    have a := Rat.intCast_le_intCast.2 (show (-8 : Int) ≤ n by omega)
    have c := Rat.intCast_le_intCast.2 (show n ≤ (8 : Int) by omega)
    rw [show ((-8 : Int) : Rat) = -8 from rfl] at a
    rw [show ((8 : Int) : Rat) = 8 from rfl] at c
    unfold Cl
    constructor <;> grind
  exact ⟨by unfold fWords; rw [List.length_map]; exact hl, fun z hz => (key z hz).1, fun z hz => (key z hz).2⟩
/-- The first number of a spring's field is an eighth of the side. -/
theorem spr_first {W n : Nat} {la : List Int} (h : SprL W la n) (hn : 0 < n) : ∃ h0 : 0 < la.length, la[0] = (W : Int) := by
  have hl := h.len
  refine ⟨by omega, ?_⟩
  rcases h.head with e | e
  · subst e; exact absurd hl (by simp; omega)
  · cases la with
    | nil => cases e
    | cons a l => simpa using e
def eigChk (W : Nat) : Bool := floatBits .mul .f32 1040187392 (floatOfInt .f32 (W : Int)) == some (wd single 3 (W : Int))
theorem eig_all : ∀ W : Fin 4, eigChk (W.val + 4) = true := by decide +kernel
theorem eighth_side (W : Nat) (h4 : 4 ≤ W) (h7 : W ≤ 7) : floatBits .mul .f32 1040187392 (floatOfInt .f32 (W : Int)) = some (wd single 3 (W : Int)) := by
  have h := eig_all ⟨W - 4, by omega⟩
  have e : W - 4 + 4 = W := by omega
  simp only [e] at h
  unfold eigChk at h
  simpa using h

/-- What the law's round wants of one particle. -/
structure SElem (W H : Nat) (F1 F2 : List Nat) (p s p' : PD) (fx fy sx sy L L0 D0 d wa wb tx ty D1 r1 r2 D2 rx ry cx cy : Nat) : Prop where
  t : STold W H F1 F2 p s p' fx fy sx sy L L0 D0 d wa wb tx ty D1 r1 r2 D2 rx ry cx cy
  sc : Num s.c
  sd : Num s.d
  pa : Num p.a
  pb : Num p.b
structure SAll (W H : Nat) (F1 F2 : List Nat) (ps ss : List PD) (Ls : List Nat) : Prop where
  l1 : ss.length = ps.length
  l2 : Ls.length = ps.length
  start : StartL W H F1 F2 0 1056964608 ps ss
  ways : ∀ (i : Nat) (h : i < ps.length) (h' : i < Ls.length), ∃ sx sy, WayL ps[i] 1056964608 sx sy Ls[i]
  small : ∀ (i : Nat) (h : i < Ls.length), V single Ls[i] ≤ 4
  elem : ∀ (i : Nat) (h : i < ps.length) (h1 : i < ss.length) (h2 : i < Ls.length), ∃ p' fx fy sx sy L0 D0 d wa wb tx ty D1 r1 r2 D2 rx ry cx cy, SElem W H F1 F2 ps[i] ss[i] p' fx fy sx sy Ls[i] L0 D0 d wa wb tx ty D1 r1 r2 D2 rx ry cx cy
theorem sall_any {W H : Nat} {F1 F2 : List Nat} (h : Sides W H) (f1 : Fld W H F1) (f2 : Fld W H F2) (ps : List PD) (P0 : AllW 1 ps) (N0 : AllN ps) : ∃ ss Ls, SAll W H F1 F2 ps ss Ls := by
  obtain ⟨xs, hl, hr⟩ := pick_list (fun p (x : PD × Nat) => ∃ p' fx fy sx sy L0 D0 d wa wb tx ty D1 r1 r2 D2 rx ry cx cy, SElem W H F1 F2 p x.1 p' fx fy sx sy x.2 L0 D0 d wa wb tx ty D1 r1 r2 D2 rx ry cx cy) ps (fun p hp => by
    obtain ⟨s, p', fx, fy, sx, sy, L, L0, D0, d, wa, wb, tx, ty, D1, r1, r2, D2, rx, ry, cx, cy, T⟩ := start_told h f1 f2 (P0 p hp)
    obtain ⟨n1, n2, _⟩ := N0 p hp
    obtain ⟨m1, m2⟩ := push_num T.push T.nsc T.nsd
    exact ⟨(s, L), p', fx, fy, sx, sy, L0, D0, d, wa, wb, tx, ty, D1, r1, r2, D2, rx, ry, cx, cy, ⟨T, m1, m2, n1, n2⟩⟩)
  have l1 : (xs.map Prod.fst).length = ps.length := by rw [List.length_map, hl]
  have l2 : (xs.map Prod.snd).length = ps.length := by rw [List.length_map, hl]
  have el : ∀ (i : Nat) (a : i < ps.length) (b : i < (xs.map Prod.fst).length) (c : i < (xs.map Prod.snd).length), ∃ p' fx fy sx sy L0 D0 d wa wb tx ty D1 r1 r2 D2 rx ry cx cy, SElem W H F1 F2 ps[i] (xs.map Prod.fst)[i] p' fx fy sx sy (xs.map Prod.snd)[i] L0 D0 d wa wb tx ty D1 r1 r2 D2 rx ry cx cy := fun i a b c => by
    rw [List.getElem_map, List.getElem_map]
    exact hr i a (by omega)
  generalize xs.map Prod.fst = ss at *
  generalize xs.map Prod.snd = Ls at *
  refine ⟨ss, Ls, l1, l2, ⟨l1, fun i a b => ?_⟩, fun i a b => ?_, fun i b => ?_, el⟩
  · obtain ⟨p', fx, fy, sx, sy, L0, D0, d, wa, wb, tx, ty, D1, r1, r2, D2, rx, ry, cx, cy, E⟩ := el i a b (by omega)
    exact E.t.start
  · obtain ⟨p', fx, fy, sx, sy, L0, D0, d, wa, wb, tx, ty, D1, r1, r2, D2, rx, ry, cx, cy, E⟩ := el i a (by omega) b
    exact ⟨sx, sy, E.t.way⟩
  · obtain ⟨p', fx, fy, sx, sy, L0, D0, d, wa, wb, tx, ty, D1, r1, r2, D2, rx, ry, cx, cy, E⟩ := el i (by omega) (by omega) b
    exact E.t.lbd
end Go.Proofs.Ytdonmboidpppmaa
