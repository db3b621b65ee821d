/- Contracts: the bytes of a cloud, by the reference. -/
import Derived.Test.YtafaabhnkjjkcaaSd
import Derived.Test.YtafaabhnkjjkcaaSc0
import Derived.Outline
import Derived.Deep.RegionHeld
import Derived.Deep.DeepCutAuto
namespace Go.Proofs.Ytafaabhnkjjkcaa
open Go.RowKit Go.Sort

def PD.okN (p : PD) : Prop := Go.Proofs.Ytafaabhnkjjkcaa.okN p.a ∧ Go.Proofs.Ytafaabhnkjjkcaa.okN p.b ∧ Go.Proofs.Ytafaabhnkjjkcaa.okN p.c ∧ Go.Proofs.Ytafaabhnkjjkcaa.okN p.d ∧ Go.Proofs.Ytafaabhnkjjkcaa.okN p.q ∧ Go.Proofs.Ytafaabhnkjjkcaa.okN p.m

/-- The first 14 bytes of a cloud. -/
def sideB (wd hg : Nat) : ByteArray := ⟨#[UInt8.ofNat wd, UInt8.ofNat hg]⟩
@[go_sem] theorem sideB_size (a b : Nat) : (sideB a b).size = 2 := rfl
def oneB (n : Nat) : ByteArray := ⟨#[UInt8.ofNat n]⟩
@[go_sem] theorem oneB_size (a : Nat) : (oneB a).size = 1 := rfl
def headB (wd hg mg bk : Nat) : ByteArray := (((⟨#[67, 76, 68, 49]⟩ : ByteArray) ++ sideB wd hg) ++ fourB mg) ++ fourB bk
def bodyB (b : ByteArray) (ps : List PD) : ByteArray := ps.foldl (fun b p => b ++ pdB p) b
theorem ret_str {a b : ByteArray} (h : a = b) : Ending.returned (.string a) = .returned (.string b) := by rw [h]
theorem headB_size (wd hg mg bk : Nat) : (headB wd hg mg bk).size = 14 := by
  unfold headB
  simp only [ByteArray.size_append, fourB_size, sideB_size]
  rfl
theorem bodyB_snoc (b : ByteArray) (ps : List PD) (p : PD) : bodyB b (ps ++ [p]) = bodyB b ps ++ pdB p := by unfold bodyB; rw [List.foldl_append]; rfl
theorem bodyB_take (b : ByteArray) (ps : List PD) (i : Nat) (h : i < ps.length) : bodyB b (ps.take (i + 1)) = bodyB b (ps.take i) ++ pdB ps[i] := by
  rw [List.take_succ_eq_append_getElem h, bodyB_snoc]

theorem bcell {W w1 : World} (hb : Below W.heap.size W w1) : (∀ b o, b < W.heap.size → w1.cell? ⟨b, o, none⟩ = W.cell? ⟨b, o, none⟩) ∧ (∀ b o, b < W.heap.size → w1.frozen? ⟨b, o, none⟩ = W.frozen? ⟨b, o, none⟩) :=
  ⟨fun b o h => hb.cell (p := ⟨b, o, none⟩) h, fun b o h => hb.frozen (p := ⟨b, o, none⟩) h⟩

theorem wrap_u8 (n : Nat) (h : n < 256) : IntKind.u8.wrap (n : Int) = n := by rw [IntKind.wrap_u8]; omega

theorem run_two (W : World) (H wd hg : Nat) (hwd : wd < 256) (hhg : hg < 256) (h0 : W.cell? ⟨H, 0, none⟩ = some (.int .u8 (IntKind.u8.wrap wd))) (h1 : W.cell? ⟨H, 1, none⟩ = some (.int .u8 (IntKind.u8.wrap hg))) :
    (convert 50 9 (.slice (some ⟨H, 0, none⟩) 2 2)).run Try.prog W = .ok (.string (sideB wd hg)) W := by
  rw [wrap_u8 _ hwd] at h0
  rw [wrap_u8 _ hhg] at h1
  exact run_convert_bytes_back (P := Try.prog) W 50 9 5 ⟨H, 0, none⟩ 2 [UInt8.ofNat wd, UInt8.ofNat hg] Try.underlying50 Try.underlying5 Try.underlying9 (fun j hj => by
    have hj' : j = 0 ∨ j = 1 := by simp at hj; omega
    rcases hj' with rfl | rfl
    · rw [Addr.add_lit]; exact h0.trans (by simp [Nat.mod_eq_of_lt hwd])
    · rw [Addr.add_lit]; exact h1.trans (by simp [Nat.mod_eq_of_lt hhg]))

theorem run_one (W : World) (H n : Nat) (hn : n < 256) (h0 : W.cell? ⟨H, 0, none⟩ = some (.int .u8 n)) :
    (convert 50 9 (.slice (some ⟨H, 0, none⟩) 1 1)).run Try.prog W = .ok (.string (oneB n)) W := by
  exact run_convert_bytes_back (P := Try.prog) W 50 9 5 ⟨H, 0, none⟩ 1 [UInt8.ofNat n] Try.underlying50 Try.underlying5 Try.underlying9 (fun j hj => by
    obtain rfl : j = 0 := by simp at hj; omega
    rw [Addr.add_lit]; exact h0.trans (by simp [Nat.mod_eq_of_lt hn]))

set_option maxHeartbeats 4000000 in
set_option maxRecDepth 20000 in
theorem l10Cloud_any (g o : Nat) (B : Nat) (v : Value) (ps : List PD) (wd hg mg bk : Nat) (w : World) (hwd : wd < 256) (hhg : hg < 256) (hmg : okN mg) (hbk : okN bk) (hps : ∀ p ∈ ps, p.okN) (hN : ps.length ≤ 48)
    (c0 : w.cell? ⟨g, o, none⟩ = some (.int .i64 wd)) (c1 : w.cell? ⟨g, o + 1, none⟩ = some (.int .i64 hg)) (c2 : w.cell? ⟨g, o + 2, none⟩ = some v) (c3 : w.cell? ⟨g, o + 3, none⟩ = some (.float .f32 mg)) (c4 : w.cell? ⟨g, o + 4, none⟩ = some (.float .f32 bk))
    (hown : w.ownsRow B 25 4 v ps.length (psCells ps)) :
    Calls Try.prog 98 #[.pointer (some ⟨g, o, none⟩)] w fun e w' => e = .returned (.string (bodyB (headB wd hg mg bk ++ oneB ps.length) ps)) ∧ Below w.heap.size w w' := by
  have lg := World.block_lt_of_cell? w _ c0
  have F3 := keep (fun w => l10Four_any mg w hmg.1 hmg.2)
  have F4 := keep (fun w => l10Four_any bk w hbk.1 hbk.2)
  have HO := keep hown
  have HP := keep hps
  have hwd' : (wd : Int) ≤ 255 := by omega
  have hhg' : (hg : Int) ≤ 255 := by omega
  clear hown hps hmg hbk
  go_enter Try.func98, Try.ntmps98
  go_wp2_with fail
  go_cut [3] (fun s3 wx => s3 = .string (headB wd hg mg bk) ∧ Below w.heap.size w wx)
  case first =>
    have hcv : ∀ (W : World) (H : Nat), W.cell? ⟨H, 0, none⟩ = some (.int .u8 (IntKind.u8.wrap wd)) → W.cell? ⟨H, 1, none⟩ = some (.int .u8 (IntKind.u8.wrap hg)) → (convert 50 9 (.slice (some ⟨H, 0, none⟩) 2 2)).run Try.prog W = .ok (.string (sideB wd hg)) W := fun W H h0 h1 => run_two W H wd hg hwd hhg h0 h1
    have hcvA : ∀ (W : World), (convert 50 9 (.slice (some ⟨W.heap.size, 0, none⟩) 2 2)).run Try.prog (W.alloc (.cells #[.int .u8 (IntKind.u8.wrap wd), .int .u8 (IntKind.u8.wrap hg)] 5)).drew = .ok (.string (sideB wd hg)) (W.alloc (.cells #[.int .u8 (IntKind.u8.wrap wd), .int .u8 (IntKind.u8.wrap hg)] 5)).drew := fun W => hcv _ _ (by simp) (by simp)
    have hcvB : ∀ (W : World), (convert 50 9 (.slice (some ⟨W.heap.size, 0, none⟩) 2 2)).run Try.prog (W.alloc (.cells #[.int .u8 (IntKind.u8.wrap wd), .int .u8 (IntKind.u8.wrap hg)] 5)) = .ok (.string (sideB wd hg)) (W.alloc (.cells #[.int .u8 (IntKind.u8.wrap wd), .int .u8 (IntKind.u8.wrap hg)] 5)) := fun W => hcv _ _ (by simp) (by simp)
    go_region_held (fun wx => wx.cell? ⟨g, o, none⟩ = some (.int .i64 wd) ∧ wx.cell? ⟨g, o + 1, none⟩ = some (.int .i64 hg) ∧ wx.cell? ⟨g, o + 3, none⟩ = some (.float .f32 mg) ∧ wx.cell? ⟨g, o + 4, none⟩ = some (.float .f32 bk) ∧ Below w.heap.size w wx)
      ((go_split_ands; refine (fun hB : Below w.heap.size w _ => ⟨(hB.cell (p := ⟨g, o, none⟩) lg).trans c0, (hB.cell (p := ⟨g, o + 1, none⟩) lg).trans c1, (hB.cell (p := ⟨g, o + 3, none⟩) lg).trans c3, (hB.cell (p := ⟨g, o + 4, none⟩) lg).trans c4, hB⟩) ?_; first | assumption | (go_grown; done) | (have hq := fun (h : Below w.heap.size w _) => h.trans (hbx.mono h.size); exact hq (by assumption))))
      (first
        | (go_at_call_of 109 (Value.float .f32 mg); (with_reducible refine (F3.out _).mono ?_); rintro e w1 ⟨rfl, hbx⟩; have hcx := (bcell hbx).1; have hzx := hbx.size; try simp only [World.size_alloc, World.size_drew, Nat.add_one_le_iff] at hzx)
        | (go_at_call_of 109 (Value.float .f32 bk); (with_reducible refine (F4.out _).mono ?_); rintro e w2 ⟨rfl, hbx⟩; have hcx := (bcell hbx).1; have hzx := hbx.size; try simp only [World.size_alloc, Nat.add_one_le_iff] at hzx))
    all_goals
      go_split_ands
      clear hcv hcvA hcvB
      go_wp2_with fail
      go_meet
      refine ⟨rfl, ?_⟩
      first | assumption | (go_grown; done)
  case rest =>
    obtain ⟨rfl, hb⟩ := hcut
    obtain ⟨A, C, rfl⟩ := owns_slice HO.out
    have hcw : ∀ (W : World), (convert 50 9 (.slice (some ⟨W.heap.size, 0, none⟩) 1 1)).run Try.prog (W.alloc (.cells #[.int .u8 ps.length] 5)) = .ok (.string (oneB ps.length)) (W.alloc (.cells #[.int .u8 ps.length] 5)) := fun W => run_one _ _ _ (by omega) (by simp)
    have C2 := keep c2
    have hz := headB_size wd hg mg bk
    have d2 := (hb.cell (p := ⟨g, o + 2, none⟩) lg).trans c2
    have LG := keep lg
    clear c0 c1 c2 c3 c4 F3 F4 lg
    generalize hhd : headB wd hg mg bk = hd at *
    have HHD := keep hhd
    clear hhd
    have HL := keep l10Bytes_any
    go_wp2_with fail
    have hz1 : (hd ++ oneB ps.length).size = 15 := by simp only [ByteArray.size_append, oneB_size]; omega
    generalize hst : hd ++ oneB ps.length = st at *
    have HST := keep hst
    clear hst
    have HB := keep hb
    go_loopw [3, 4] (fun t s wr => ∃ (i : Nat) (b : ByteArray), i ≤ ps.length ∧ s = .int .i64 i ∧ t = .string b ∧ b.size ≤ 15 + 24 * i ∧ Kept (b = bodyB st (ps.take i)) ∧ Below w.heap.size w wr) (fun _ s _ => ps.length - (intOf s).toNat)
    case atStart => exact ⟨0, st, Nat.zero_le _, rfl, rfl, by omega, keep rfl, by have hbs := hb.size; go_grown⟩
    case round =>
      clear hcw d2 hb hz hz1
      obtain ⟨i, b, hi, rfl, rfl, hbz, hbe, hbr⟩ := hrel
      have d2 := (hbr.cell (p := ⟨g, o + 2, none⟩) LG.out).trans C2.out
      by_cases hlt : i < ps.length
      · obtain ⟨gp, rfl, hBg, lgp⟩ := owns_at HO.out (by omega)
        have hc2 : ∀ (j : Nat) (u : Value), j < 4 → ps[i].cells[j]? = some u → wr.cell? ⟨gp, i * 4 + j, none⟩ = some u := fun j u hj hu => by
          rw [hbr.cell (p := ⟨gp, i * 4 + j, none⟩) lgp]
          exact owns_cell HO.out (by rw [psCells_at _ i hlt j hj]; exact hu)
        have c0 : wr.cell? ⟨gp, i * 4, none⟩ = some (.complex .f32 ps[i].a ps[i].b) := hc2 0 _ (by omega) rfl
        have c1 : wr.cell? ⟨gp, i * 4 + 1, none⟩ = some (.complex .f32 ps[i].c ps[i].d) := hc2 1 _ (by omega) rfl
        have c2 : wr.cell? ⟨gp, i * 4 + 2, none⟩ = some (.float .f32 ps[i].q) := hc2 2 _ (by omega) rfl
        have c3 : wr.cell? ⟨gp, i * 4 + 3, none⟩ = some (.float .f32 ps[i].m) := hc2 3 _ (by omega) rfl
        obtain ⟨k1, k2, k3, k4, k5, k6⟩ := HP.out ps[i] (List.getElem_mem hlt)
        have HE := keep (HL.out gp (i * 4) ps[i] wr k1 k2 k3 k4 k5 k6 c0 c1 c2 c3)
        have HT := keep (bodyB_take st ps i hlt)
        have hk0 : (0 : Int) ≤ (i : Int) := by omega
        have hk1 : (i : Int) < (ps.length : Int) := by omega
        have hpz := pdB_size ps[i]
        clear hc2 c0 c1 c2 c3 k1 k2 k3 k4 k5 k6
        generalize ps[i] = p at *
        go_wp2_with fail
        refine HE.out.mono ?_
        rintro e w2 ⟨rfl, hb2⟩
        have hb3 := hbr.trans (hb2.mono hbr.size)
        clear d2 hb2
        go_wp2_with fail
        refine ⟨⟨i + 1, b ++ pdB p, by omega, by go_num, rfl, by rw [ByteArray.size_append]; omega, keep (by rw [HT.out, ← hbe.out]), hb3⟩, by simp [intOf]; omega⟩
      · obtain rfl : i = ps.length := by omega
        go_wp2_with fail
        go_ret
        exact ⟨ret_str (by rw [hbe.out, List.take_length, ← HST.out, ← HHD.out]), hbr⟩
end Go.Proofs.Ytafaabhnkjjkcaa
