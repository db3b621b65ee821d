/- Contracts: texts of lists of numbers and of complex numbers; plain: they are read back. The table of trailing zeros is a premise. Printed by mkZe.py. -/
import Derived.Test.YtcmppipilihmkaaGreatDoorZd
import Derived.Test.YtcmppipilihmkaaGreatDoorUl
namespace Go.Proofs.YtcmppipilihmkaaGreatDoor
open Go.RowKit Go.Sort Ieee
set_option linter.unusedSimpArgs false

/-! ### Texts of lists -/
/-- The text of a list whose elements have these texts. -/
def textL (ws : List (List UInt8)) : List UInt8 := if ws = [] then [110, 111, 110, 101] else Lib.join ws [44]
theorem join_two (x y : List UInt8) (r : List (List UInt8)) (m : UInt8) : Lib.join (x :: y :: r) [m] = x ++ m :: Lib.join (y :: r) [m] := by
  rw [Lib.join_cons, Lib.join_cons]
  simp [Lib.joinTail]
theorem parts_join (m : UInt8) : ∀ (ws : List (List UInt8)), ws ≠ [] → (∀ p ∈ ws, ∀ b ∈ p, b ≠ m) → parts m [] (Lib.join ws [m]) = ws := by
  intro ws
  induction ws with
  | nil => intro h; exact absurd rfl h
  | cons x r ih =>
    intro _ hm
    cases r with
    | nil =>
      rw [Lib.join_one, parts_none m x [] (fun b hb => hm x List.mem_cons_self b hb), List.nil_append]
    | cons y r =>
      rw [join_two, parts_some m x _ [] (fun b hb => hm x List.mem_cons_self b hb), List.nil_append, ih (by simp) (fun p hp => hm p (List.mem_cons_of_mem _ hp))]
theorem join_size (m : UInt8) (k : Nat) : ∀ (ws : List (List UInt8)), (∀ p ∈ ws, p.length = k) → ws ≠ [] → k ≤ (Lib.join ws [m]).length ∧ (Lib.join ws [m]).length ≤ (k + 1) * ws.length := by
  intro ws
  induction ws with
  | nil => intro _ h; exact absurd rfl h
  | cons x r ih =>
    intro hm _
    cases r with
    | nil =>
      rw [Lib.join_one, hm x List.mem_cons_self]
      simp
    | cons y r =>
      have h := ih (fun p hp => hm p (List.mem_cons_of_mem _ hp)) (by simp)
      rw [join_two, List.length_append, List.length_cons, hm x List.mem_cons_self]
      rw [List.length_cons (a := x), Nat.mul_succ]
      omega
theorem allOf_all {α β : Type} {f : α → Option β} {g : β → α} : ∀ (l : List β), (∀ b ∈ l, f (g b) = some b) → allOf f (l.map g) = some l := by
  intro l
  induction l with
  | nil => intro _; rfl
  | cons b r ih =>
    intro h
    rw [List.map_cons, allOf_some (h b List.mem_cons_self), ih (fun c hc => h c (List.mem_cons_of_mem _ hc))]; rfl
/-- A text of such a list is read back. -/
theorem goodL_text {β : Type} (f : List UInt8 → Option β) (g : β → List UInt8) (k : Nat) (hk : 5 ≤ k) (l : List β) (hl : l.length ≤ 256) (h8 : ∀ b ∈ l, (g b).length = k) (hm : ∀ b ∈ l, ∀ c ∈ g b, c ≠ 44) (hf : ∀ b ∈ l, f (g b) = some b) : goodL f (textL (l.map g)) = some l := by
  unfold textL
  by_cases hz : l = []
  · subst hz; rfl
  · have hz2 : l.map g ≠ [] := by simpa using hz
    have hs := join_size 44 k (l.map g) (fun p hp => by
      obtain ⟨b, hb, rfl⟩ := List.mem_map.1 hp
      exact h8 b hb) hz2
    rw [if_neg hz2, goodL_else (by
      intro e
      rw [e] at hs
      simp at hs
      omega), parts_join 44 _ hz2 (fun p hp => by
      obtain ⟨b, hb, rfl⟩ := List.mem_map.1 hp
      exact hm b hb), if_neg (by rw [List.length_map]; omega)]
    exact allOf_all l hf

/-! ### Words -/
theorem hex8_len (n : Nat) (h : n < 4294967296) : (hex8 n).length = 8 := by
  have e := hv8_hex8 n h
  unfold hv8 at e
  split at e
  · assumption
  · cases e
theorem hex8_mark (n : Nat) (h : n < 4294967296) : ∀ c ∈ hex8 n, c ≠ 44 := by
  intro c hc e
  subst e
  have e := hv8_hex8 n h
  unfold hv8 at e
  rw [if_pos (hex8_len n h), valF_bad 44 (by decide) _ 0 hc] at e
  cases e
theorem goodw_hex8 (n : Nat) (h : n < 4294967296) (hc : cb n = n) : goodw (hex8 n) = some n := by
  unfold goodw
  rw [hv8_hex8 n h]
  show (if cb n = n then some n else none) = some n
  rw [if_pos hc]
/-- The text of a word; of a pair of words. -/
def wtx (n : Nat) : List UInt8 := hex8 (cb n)
def ctx (p : Nat × Nat) : List UInt8 := hex8 (cb p.1) ++ hex8 (cb p.2)
theorem text_words (xs : List Nat) (hl : xs.length ≤ 256) (h : ∀ x ∈ xs, x < 4294967296) : goodL goodw (textL (xs.map wtx)) = some (xs.map cb) := by
  have e : xs.map wtx = (xs.map cb).map hex8 := by rw [List.map_map]; rfl
  rw [e]
  have hb : ∀ b ∈ xs.map cb, b < 4294967296 ∧ cb b = b := by
    intro b hb
    obtain ⟨x, hx, rfl⟩ := List.mem_map.1 hb
    exact ⟨cb_lt (h x hx), cb_cb x⟩
  exact goodL_text goodw hex8 8 (by omega) (xs.map cb) (by rw [List.length_map]; exact hl) (fun b h1 => hex8_len b (hb b h1).1) (fun b h1 => hex8_mark b (hb b h1).1) (fun b h1 => goodw_hex8 b (hb b h1).1 (hb b h1).2)
theorem goodc_two (a b : Nat) (ha : a < 4294967296) (hb : b < 4294967296) (ea : cb a = a) (eb : cb b = b) : goodc (hex8 a ++ hex8 b) = some (a, b) := by
  have la := hex8_len a ha
  have lb := hex8_len b hb
  unfold goodc
  rw [if_pos (by rw [List.length_append]; omega), List.take_left' la, List.drop_left' la, goodw_hex8 a ha ea, goodw_hex8 b hb eb]
def cb2 (p : Nat × Nat) : Nat × Nat := (cb p.1, cb p.2)
def P32 (p : Nat × Nat) : Prop := p.1 < 4294967296 ∧ p.2 < 4294967296
theorem text_pairs (xs : List (Nat × Nat)) (hl : xs.length ≤ 256) (h : ∀ x ∈ xs, P32 x) : goodL goodc (textL (xs.map ctx)) = some (xs.map cb2) := by
  have e : xs.map ctx = (xs.map cb2).map (fun p => hex8 p.1 ++ hex8 p.2) := by rw [List.map_map]; rfl
  rw [e]
  have hb : ∀ b ∈ xs.map cb2, P32 b ∧ cb b.1 = b.1 ∧ cb b.2 = b.2 := by
    intro b hb
    obtain ⟨x, hx, rfl⟩ := List.mem_map.1 hb
    exact ⟨⟨cb_lt (h x hx).1, cb_lt (h x hx).2⟩, cb_cb _, cb_cb _⟩
  refine goodL_text goodc (fun p => hex8 p.1 ++ hex8 p.2) 16 (by omega) (xs.map cb2) (by rw [List.length_map]; exact hl) (fun b h1 => ?_) (fun b h1 c hc => ?_) (fun b h1 => ?_)
  · rw [List.length_append, hex8_len _ (hb b h1).1.1, hex8_len _ (hb b h1).1.2]
  · rcases List.mem_append.1 hc with h2 | h2
    · exact hex8_mark _ (hb b h1).1.1 c h2
    · exact hex8_mark _ (hb b h1).1.2 c h2
  · exact goodc_two _ _ (hb b h1).1.1 (hb b h1).1.2 (hb b h1).2.1 (hb b h1).2.2
theorem textL_size (k : Nat) (ws : List (List UInt8)) (h : ∀ p ∈ ws, p.length = k) (hl : ws.length ≤ 256) (hk : k ≤ 16) : (textL ws).length ≤ 5000 := by
  unfold textL
  split
  · simp
  · rename_i hz
    have h1 := (join_size 44 k ws h hz).2
    have h2 : (k + 1) * ws.length ≤ 17 * 256 := Nat.mul_le_mul (by omega) hl
    omega

theorem bitsText_w (x : Nat) (w : World) (hx : x < 4294967296) (ht : TZ w) : Calls Tryz.prog 68 #[.float .f32 x] w fun e w' => e = .returned (.string (tx (wtx x))) ∧ Below w.heap.size w w' := bitsText_any x w hx ht
set_option maxHeartbeats 1000000 in
theorem complexText_w (p : Nat × Nat) (w : World) (hp : P32 p) (ht : TZ w) : Calls Tryz.prog 48 #[.complex .f32 p.1 p.2] w fun e w' => e = .returned (.string (tx (ctx p))) ∧ Below w.heap.size w w' := by
  have B1 := keep (bitsText_any p.1 w hp.1 ht)
  have B2 := keep (fun w ht => bitsText_any p.2 w hp.2 ht)
  have HT := keep ht
  have l1 := tx_size (hex8 (cb p.1))
  have l2 := tx_size (hex8 (cb p.2))
  rw [hex8_len _ (cb_lt hp.1)] at l1
  rw [hex8_len _ (cb_lt hp.2)] at l2
  have EC := keep (show tx (hex8 (cb p.1)) ++ tx (hex8 (cb p.2)) = tx (ctx p) by
    apply ByteArray.ext; unfold tx ctx; simp)
  clear ht hp
  generalize tx (hex8 (cb p.1)) = s at *
  generalize tx (hex8 (cb p.2)) = t at *
  generalize tx (ctx p) = u at *
  generalize p.1 = a at *
  generalize p.2 = b at *
  go_enter Tryz.func48, Tryz.ntmps48
  go_wp2_with fail
  refine B1.out.mono ?_
  rintro e w1 ⟨rfl, hb⟩
  have HB := keep hb
  have HT1 := keep (HT.out.below hb (Nat.le_refl _))
  clear hb
  go_wp2_with fail
  refine (B2.out _ HT1.out).mono ?_
  rintro e w2 ⟨rfl, hb⟩
  have HB2 := keep (HB.out.trans (hb.mono HB.out.size))
  clear hb
  go_wp2_with fail
  go_ret
  exact ⟨by rw [← EC.out]; rfl, HB2.out⟩

set_option maxHeartbeats 8000000 in
set_option maxRecDepth 20000 in
theorem joinTexts_f (B n c : Nat) (A : Option Addr) (xs : List (Nat)) (w : World) (h : w.ownsRow B 28 1 (.slice A n c) xs.length (xs.map fvw)) (hx : ∀ x ∈ xs, x < 4294967296) (hN : xs.length ≤ 256) (ht : TZ w) :
    Calls Tryz.prog 67 #[.slice A n c, .func (.func 68) #[] #[]] w fun e w' => e = .returned (.string (tx (textL (xs.map wtx)))) ∧ Below w.heap.size w w' := by
  obtain rfl : n = xs.length := by
    rcases h.2 with ⟨e, hz⟩ | ⟨g, cap, cur, e, _⟩
    · injection e with _ e _
      omega
    · injection e with _ e _
  have TL := textL_size 8 (xs.map wtx) (fun p hp => by
    obtain ⟨b, hb, rfl⟩ := List.mem_map.1 hp
    exact hex8_len _ (cb_lt (hx b hb))) (by rw [List.length_map]; exact hN) (by omega)
  by_cases hz : xs.length = 0
  · obtain rfl : xs = [] := List.eq_nil_of_length_eq_zero hz
    clear h hx hN ht hz TL
    go_enter Tryz.func67, Tryz.ntmps67
    go_wp2_with fail
    go_ret
    exact ⟨rfl, Below.refl _ _⟩
  · obtain ⟨i0, hi, hz0, hz1, hz2⟩ := info_parts infoString
    have HI := keep hi
    have HZ0 := keep hz0
    have HZ1 := keep hz1
    have HZ2 := keep hz2
    clear hi hz0 hz1 hz2
    have hzI : ((xs.length : Int) == 0) = false := by rw [beq_eq_false_iff_ne]; omega
    have hzI2 : ¬ ((xs.length : Int) = 0) := by omega
    obtain ⟨g, c2, e, _, _⟩ := h.form (by omega)
    injection e with e1 e2 e3
    subst e1
    have CE := keep (show ∀ i (hi : i < xs.length), g < w.heap.size ∧ w.cell? ⟨g, i, none⟩ = some (fvw xs[i]) from fun i hi => by
      have hc := h.cells (g := g) rfl i (fvw xs[i]) (by rw [List.getElem?_map, List.getElem?_eq_getElem hi]; rfl)
      rw [Addr.add_lit, Nat.zero_add] at hc
      exact ⟨World.block_lt_of_cell? w _ hc, hc⟩)
    have HX := keep hx
    have HT := keep ht
    have BT := keep (fun (x : Nat) (hx : x < 4294967296) (w : World) (ht : TZ w) => bitsText_w x w hx ht)
    have HNZ := keep hz
    have TXL := keep TL
    clear h hx ht e2 e3 hz TL
    go_enter Tryz.func67, Tryz.ntmps67
    go_wp2_with fail
    go_loopw [5, 13] (fun o t wr => ∃ (i : Nat) (A2 : Option Addr) (c4 : Nat), o = .slice A2 i c4 ∧ t = .int .i64 i ∧ i ≤ xs.length ∧ Kept (wr.ownsRow w.heap.size 9 1 (.slice A2 i c4) i (sv ((xs.take i).map fun x => tx (wtx x)))) ∧ Kept (Below w.heap.size w wr)) (fun _ t _ => xs.length - (intOf t).toNat)
    case atStart => exact ⟨0, none, 0, rfl, rfl, by omega, keep ⟨rfl, .inl ⟨rfl, rfl⟩⟩, keep (Below.refl _ _)⟩
    case round =>
      obtain ⟨i, A2, c4, rfl, rfl, hi, ho, hb⟩ := hrel
      have hb0 := hb.out.size
      by_cases hlt : i < xs.length
      · have hltI : (i : Int) < (xs.length : Int) := by omega
        have hcell : wr.cell? ⟨g, i, none⟩ = some (fvw xs[i]) := (hb.out.cell (p := ⟨g, i, none⟩) (CE.out i hlt).1).trans (CE.out i hlt).2
        have BTw := keep (BT.out xs[i] (HX.out _ (List.getElem_mem hlt)) wr (HT.out.below hb.out (Nat.le_refl _)))
        have TK := keep (List.take_succ_eq_append_getElem hlt)
        generalize xs[i] = x at *
        unfold fvw at hcell
        go_wp2_with fail
        refine BTw.out.mono ?_
        rintro e w4 ⟨rfl, hb4⟩
        have HB4 := keep (hb.out.trans (hb4.mono hb0))
        have hb4z := HB4.out.size
        have HO4 := keep (owns_below ho.out hb4)
        clear hb4 hcell BTw ho hb
        generalize hs : tx (wtx x) = s at *
        go_wp2_with (at_builtin; go_loud (refine wpList_append_own_at _ rfl _ _ 97 rfl w.heap.size 9 i0 _ 1 16 Tryz.underlying97 HI.out HZ0.out HZ1.out HZ2.out rfl (by decide) (.slice A2 i c4) i _ rfl (HO4.out.alloc _) ⟨w4.heap.size, 0, none⟩ 1 1 [.string s] rfl rfl ?c1 ?c2 ?c3 ?c4 ?c5 ?_))
        case c1 => exact new_cell
        case c2 => intro u hu; simp only [List.mem_cons, List.not_mem_nil, or_false] at hu; subst hu; rfl
        case c3 => unfold maxLen; omega
        case c4 => omega
        case c5 => simp only [World.size_alloc]; omega
        intro v' w5 hown' hgrow _ _
        obtain ⟨g', cap', rfl, hB', hlt'⟩ := hown'.form (by omega)
        have hb5 := keep ((HB4.out.alloc hb4z (.cells #[.string s] 9)).grown hgrow (by simp only [World.size_alloc]; omega) (fun g e => by have := ((HO4.out.alloc (.cells #[.string s] 9)).lt g e).1; omega))
        have HO := keep hown'
        clear hown' hgrow
        go_wp2_with fail
        go_roundw
        case rel => exact ⟨i + 1, _, _, rfl, by go_num, by omega, keep (by
            have e := HO.out
            rw [TK.out, List.map_append]
            unfold sv at *
            rw [List.map_append, List.map_cons, List.map_nil, List.map_cons, List.map_nil, hs]
            first
              | exact e
              | (simp only [← List.map_take] at e; exact e)
              | (simp only [List.map_take] at e ⊢; exact e)), hb5⟩
        case measure => simp [intOf]; omega
      · obtain rfl : i = xs.length := by omega
        have ho2 := ho.out
        rw [List.take_length] at ho2
        obtain ⟨g2, c5, e2, hB2, _⟩ := ho2.form (by omega)
        injection e2 with e3 e4 e5
        subst e3
        have hl2 : ((xs.map fun x => tx (wtx x))).length = xs.length := by simp
        have hcap : xs.length ≤ c4 := by
          rcases ho2.2 with ⟨e, hz⟩ | ⟨gq, cap, cur, e, _, _, hcp, _⟩
          · injection e with e _ _
            cases e
          · injection e with _ _ e
            omega
        have CL : ∀ (j : Nat) x, (xs.map fun x => tx (wtx x))[j]? = some x → wr.cell? ⟨g2, 0 + j, none⟩ = some (.string x) := by
          intro j x hj
          have hc := ho2.cells (g := g2) rfl j (.string x) (by unfold sv; rw [List.getElem?_map, hj]; rfl)
          rwa [Addr.add_lit] at hc
        have hg2 : g2 < wr.heap.size := by
          have := CL 0 _ (List.getElem?_eq_getElem (by omega))
          exact World.block_lt_of_cell? wr _ this
        have eJ : (xs.map fun x => tx (wtx x)).map (·.data.toList) = xs.map wtx := by
          rw [List.map_map]
          refine List.map_congr_left fun x _ => ?_
          show (tx (wtx x)).data.toList = _
          rw [tx_bytes]
        have hT : textL (xs.map wtx) = Lib.join (xs.map wtx) [44] := by
          unfold textL
          rw [if_neg (by intro e; have := congrArg List.length e; rw [List.length_map] at this; exact HNZ.out this)]
        have JN := Tryz.strings_Join g2 0 c4 (xs.map fun x => tx (wtx x)) ⟨#[44]⟩ wr CL hg2 (by rw [hl2]; omega) (by rw [hl2]; exact hcap) (by
          rw [eJ]
          show (Lib.join (xs.map wtx) [44]).length ≤ _
          rw [← hT]
          have := TXL.out
          omega)
        rw [hl2, eJ] at JN
        have JN := keep (show Calls Tryz.prog 81 #[.slice (some ⟨g2, 0, none⟩) xs.length c4, .string ⟨#[44]⟩] wr fun e w' => e = .returned (.string (tx (textL (xs.map wtx)))) ∧ Below wr.heap.size wr w' from by
          rw [hT]; exact JN)
        clear CL eJ hT ho2 hg2 hcap e4 e5
        obtain ⟨out, hout⟩ : ∃ out, out = tx (textL (xs.map wtx)) := ⟨_, rfl⟩
        rw [← hout] at JN
        have HOUT := keep hout
        clear hout
        go_wp2_with fail
        refine JN.out.mono ?_
        rintro e w9 ⟨rfl, hb9⟩
        have HB9 := keep (hb.out.trans (hb9.mono hb0))
        clear hb9
        go_wp2_with fail
        go_ret
        exact ⟨by rw [← HOUT.out]; rfl, HB9.out⟩

theorem isList_f (A : Option Addr) (n c : Nat) (w : World) (hn : n ≤ 256) : Calls Tryz.prog 65 #[.slice A n c] w fun e w' => e = .returned (.bool true) ∧ w' = w := by
  have h : (n : Int) ≤ 256 := by omega
  go_enter Tryz.func65, Tryz.ntmps65
  go_wp2_with fail
  go_ret
  exact ⟨by simp [h], rfl⟩
set_option maxHeartbeats 1000000 in
set_option maxRecDepth 20000 in
theorem NumbersText_ok (B n c : Nat) (A : Option Addr) (xs : List (Nat)) (w : World) (h : w.ownsRow B 28 1 (.slice A n c) xs.length (xs.map fvw)) (hx : ∀ x ∈ xs, x < 4294967296) (hN : xs.length ≤ 256) (hn : n = xs.length) (ht : TZ w) :
    Calls Tryz.prog 31 #[.slice A n c] w fun e w' => e = .returned (.tuple #[.string (tx (textL (xs.map wtx))), .bool true]) ∧ Below w.heap.size w w' := by
  subst hn
  have IL := keep (isList_f A _ c w hN)
  have JT := keep (joinTexts_f B _ c A xs w h hx hN ht)
  clear h hx ht
  obtain ⟨out, hout⟩ : ∃ out, out = tx (textL (xs.map wtx)) := ⟨_, rfl⟩
  rw [← hout] at JT ⊢
  clear hout
  go_enter Tryz.func31, Tryz.ntmps31
  go_wp2_with fail
  refine IL.out.mono ?_
  rintro e w1 ⟨rfl, hw⟩
  have hw := hw.symm
  subst hw
  go_wp2_with fail
  refine JT.out.mono ?_
  rintro e w2 ⟨rfl, hb⟩
  have HB := keep hb
  clear hb
  go_wp2_with fail
  go_ret2
  exact ⟨rfl, HB.out⟩

set_option maxHeartbeats 8000000 in
set_option maxRecDepth 20000 in
theorem joinTexts_c (B n c : Nat) (A : Option Addr) (xs : List (Nat × Nat)) (w : World) (h : w.ownsRow B 24 1 (.slice A n c) xs.length (xs.map cv)) (hx : ∀ x ∈ xs, P32 x) (hN : xs.length ≤ 256) (ht : TZ w) :
    Calls Tryz.prog 47 #[.slice A n c, .func (.func 48) #[] #[]] w fun e w' => e = .returned (.string (tx (textL (xs.map ctx)))) ∧ Below w.heap.size w w' := by
  obtain rfl : n = xs.length := by
    rcases h.2 with ⟨e, hz⟩ | ⟨g, cap, cur, e, _⟩
    · injection e with _ e _
      omega
    · injection e with _ e _
  have TL := textL_size 16 (xs.map ctx) (fun p hp => by
    obtain ⟨b, hb, rfl⟩ := List.mem_map.1 hp
    show (hex8 (cb b.1) ++ hex8 (cb b.2)).length = 16; rw [List.length_append, hex8_len _ (cb_lt (hx b hb).1), hex8_len _ (cb_lt (hx b hb).2)]) (by rw [List.length_map]; exact hN) (by omega)
  by_cases hz : xs.length = 0
  · obtain rfl : xs = [] := List.eq_nil_of_length_eq_zero hz
    clear h hx hN ht hz TL
    go_enter Tryz.func47, Tryz.ntmps47
    go_wp2_with fail
    go_ret
    exact ⟨rfl, Below.refl _ _⟩
  · obtain ⟨i0, hi, hz0, hz1, hz2⟩ := info_parts infoString
    have HI := keep hi
    have HZ0 := keep hz0
    have HZ1 := keep hz1
    have HZ2 := keep hz2
    clear hi hz0 hz1 hz2
    have hzI : ((xs.length : Int) == 0) = false := by rw [beq_eq_false_iff_ne]; omega
    have hzI2 : ¬ ((xs.length : Int) = 0) := by omega
    obtain ⟨g, c2, e, _, _⟩ := h.form (by omega)
    injection e with e1 e2 e3
    subst e1
    have CE := keep (show ∀ i (hi : i < xs.length), g < w.heap.size ∧ w.cell? ⟨g, i, none⟩ = some (cv xs[i]) from fun i hi => by
      have hc := h.cells (g := g) rfl i (cv xs[i]) (by rw [List.getElem?_map, List.getElem?_eq_getElem hi]; rfl)
      rw [Addr.add_lit, Nat.zero_add] at hc
      exact ⟨World.block_lt_of_cell? w _ hc, hc⟩)
    have HX := keep hx
    have HT := keep ht
    have BT := keep (fun (x : Nat × Nat) (hx : P32 x) (w : World) (ht : TZ w) => complexText_w x w hx ht)
    have HNZ := keep hz
    have TXL := keep TL
    clear h hx ht e2 e3 hz TL
    go_enter Tryz.func47, Tryz.ntmps47
    go_wp2_with fail
    go_loopw [5, 13] (fun o t wr => ∃ (i : Nat) (A2 : Option Addr) (c4 : Nat), o = .slice A2 i c4 ∧ t = .int .i64 i ∧ i ≤ xs.length ∧ Kept (wr.ownsRow w.heap.size 9 1 (.slice A2 i c4) i (sv ((xs.take i).map fun x => tx (ctx x)))) ∧ Kept (Below w.heap.size w wr)) (fun _ t _ => xs.length - (intOf t).toNat)
    case atStart => exact ⟨0, none, 0, rfl, rfl, by omega, keep ⟨rfl, .inl ⟨rfl, rfl⟩⟩, keep (Below.refl _ _)⟩
    case round =>
      obtain ⟨i, A2, c4, rfl, rfl, hi, ho, hb⟩ := hrel
      have hb0 := hb.out.size
      by_cases hlt : i < xs.length
      · have hltI : (i : Int) < (xs.length : Int) := by omega
        have hcell : wr.cell? ⟨g, i, none⟩ = some (cv xs[i]) := (hb.out.cell (p := ⟨g, i, none⟩) (CE.out i hlt).1).trans (CE.out i hlt).2
        have BTw := keep (BT.out xs[i] (HX.out _ (List.getElem_mem hlt)) wr (HT.out.below hb.out (Nat.le_refl _)))
        have TK := keep (List.take_succ_eq_append_getElem hlt)
        generalize xs[i] = x at *
        unfold cv at hcell
        go_wp2_with fail
        refine BTw.out.mono ?_
        rintro e w4 ⟨rfl, hb4⟩
        have HB4 := keep (hb.out.trans (hb4.mono hb0))
        have hb4z := HB4.out.size
        have HO4 := keep (owns_below ho.out hb4)
        clear hb4 hcell BTw ho hb
        generalize hs : tx (ctx x) = s at *
        go_wp2_with (at_builtin; go_loud (refine wpList_append_own_at _ rfl _ _ 97 rfl w.heap.size 9 i0 _ 1 16 Tryz.underlying97 HI.out HZ0.out HZ1.out HZ2.out rfl (by decide) (.slice A2 i c4) i _ rfl (HO4.out.alloc _) ⟨w4.heap.size, 0, none⟩ 1 1 [.string s] rfl rfl ?c1 ?c2 ?c3 ?c4 ?c5 ?_))
        case c1 => exact new_cell
        case c2 => intro u hu; simp only [List.mem_cons, List.not_mem_nil, or_false] at hu; subst hu; rfl
        case c3 => unfold maxLen; omega
        case c4 => omega
        case c5 => simp only [World.size_alloc]; omega
        intro v' w5 hown' hgrow _ _
        obtain ⟨g', cap', rfl, hB', hlt'⟩ := hown'.form (by omega)
        have hb5 := keep ((HB4.out.alloc hb4z (.cells #[.string s] 9)).grown hgrow (by simp only [World.size_alloc]; omega) (fun g e => by have := ((HO4.out.alloc (.cells #[.string s] 9)).lt g e).1; omega))
        have HO := keep hown'
        clear hown' hgrow
        go_wp2_with fail
        go_roundw
        case rel => exact ⟨i + 1, _, _, rfl, by go_num, by omega, keep (by
            have e := HO.out
            rw [TK.out, List.map_append]
            unfold sv at *
            rw [List.map_append, List.map_cons, List.map_nil, List.map_cons, List.map_nil, hs]
            first
              | exact e
              | (simp only [← List.map_take] at e; exact e)
              | (simp only [List.map_take] at e ⊢; exact e)), hb5⟩
        case measure => simp [intOf]; omega
      · obtain rfl : i = xs.length := by omega
        have ho2 := ho.out
        rw [List.take_length] at ho2
        obtain ⟨g2, c5, e2, hB2, _⟩ := ho2.form (by omega)
        injection e2 with e3 e4 e5
        subst e3
        have hl2 : ((xs.map fun x => tx (ctx x))).length = xs.length := by simp
        have hcap : xs.length ≤ c4 := by
          rcases ho2.2 with ⟨e, hz⟩ | ⟨gq, cap, cur, e, _, _, hcp, _⟩
          · injection e with e _ _
            cases e
          · injection e with _ _ e
            omega
        have CL : ∀ (j : Nat) x, (xs.map fun x => tx (ctx x))[j]? = some x → wr.cell? ⟨g2, 0 + j, none⟩ = some (.string x) := by
          intro j x hj
          have hc := ho2.cells (g := g2) rfl j (.string x) (by unfold sv; rw [List.getElem?_map, hj]; rfl)
          rwa [Addr.add_lit] at hc
        have hg2 : g2 < wr.heap.size := by
          have := CL 0 _ (List.getElem?_eq_getElem (by omega))
          exact World.block_lt_of_cell? wr _ this
        have eJ : (xs.map fun x => tx (ctx x)).map (·.data.toList) = xs.map ctx := by
          rw [List.map_map]
          refine List.map_congr_left fun x _ => ?_
          show (tx (ctx x)).data.toList = _
          rw [tx_bytes]
        have hT : textL (xs.map ctx) = Lib.join (xs.map ctx) [44] := by
          unfold textL
          rw [if_neg (by intro e; have := congrArg List.length e; rw [List.length_map] at this; exact HNZ.out this)]
        have JN := Tryz.strings_Join g2 0 c4 (xs.map fun x => tx (ctx x)) ⟨#[44]⟩ wr CL hg2 (by rw [hl2]; omega) (by rw [hl2]; exact hcap) (by
          rw [eJ]
          show (Lib.join (xs.map ctx) [44]).length ≤ _
          rw [← hT]
          have := TXL.out
          omega)
        rw [hl2, eJ] at JN
        have JN := keep (show Calls Tryz.prog 81 #[.slice (some ⟨g2, 0, none⟩) xs.length c4, .string ⟨#[44]⟩] wr fun e w' => e = .returned (.string (tx (textL (xs.map ctx)))) ∧ Below wr.heap.size wr w' from by
          rw [hT]; exact JN)
        clear CL eJ hT ho2 hg2 hcap e4 e5
        obtain ⟨out, hout⟩ : ∃ out, out = tx (textL (xs.map ctx)) := ⟨_, rfl⟩
        rw [← hout] at JN
        have HOUT := keep hout
        clear hout
        go_wp2_with fail
        refine JN.out.mono ?_
        rintro e w9 ⟨rfl, hb9⟩
        have HB9 := keep (hb.out.trans (hb9.mono hb0))
        clear hb9
        go_wp2_with fail
        go_ret
        exact ⟨by rw [← HOUT.out]; rfl, HB9.out⟩

theorem isList_c (A : Option Addr) (n c : Nat) (w : World) (hn : n ≤ 256) : Calls Tryz.prog 46 #[.slice A n c] w fun e w' => e = .returned (.bool true) ∧ w' = w := by
  have h : (n : Int) ≤ 256 := by omega
  go_enter Tryz.func46, Tryz.ntmps46
  go_wp2_with fail
  go_ret
  exact ⟨by simp [h], rfl⟩
set_option maxHeartbeats 1000000 in
set_option maxRecDepth 20000 in
theorem ComplexText_ok (B n c : Nat) (A : Option Addr) (xs : List (Nat × Nat)) (w : World) (h : w.ownsRow B 24 1 (.slice A n c) xs.length (xs.map cv)) (hx : ∀ x ∈ xs, P32 x) (hN : xs.length ≤ 256) (hn : n = xs.length) (ht : TZ w) :
    Calls Tryz.prog 17 #[.slice A n c] w fun e w' => e = .returned (.tuple #[.string (tx (textL (xs.map ctx))), .bool true]) ∧ Below w.heap.size w w' := by
  subst hn
  have IL := keep (isList_c A _ c w hN)
  have JT := keep (joinTexts_c B _ c A xs w h hx hN ht)
  clear h hx ht
  obtain ⟨out, hout⟩ : ∃ out, out = tx (textL (xs.map ctx)) := ⟨_, rfl⟩
  rw [← hout] at JT ⊢
  clear hout
  go_enter Tryz.func17, Tryz.ntmps17
  go_wp2_with fail
  refine IL.out.mono ?_
  rintro e w1 ⟨rfl, hw⟩
  have hw := hw.symm
  subst hw
  go_wp2_with fail
  refine JT.out.mono ?_
  rintro e w2 ⟨rfl, hb⟩
  have HB := keep hb
  clear hb
  go_wp2_with fail
  go_ret2
  exact ⟨rfl, HB.out⟩
end Go.Proofs.YtcmppipilihmkaaGreatDoor
