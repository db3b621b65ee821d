/- Contract: a cloud's bytes and its check number behind other bytes, by the reference. -/
import Derived.Test.YtafaabhnkjjkcaaSf
namespace Go.Proofs.Ytafaabhnkjjkcaa
open Go.RowKit Go.Sort

/-- The two bytes of a check number, as a text. -/
def twoB (n : Nat) : ByteArray := ⟨(two n).toArray⟩
@[go_sem] theorem twoB_size (n : Nat) : (twoB n).size = 2 := rfl
def frameB (b cb : ByteArray) : ByteArray := cb ++ twoB (ckAt (b ++ cb) (b ++ cb).size)

theorem run_twoB (W : World) (H n : Nat) (hn : n < 65536) (h0 : W.cell? ⟨H, 0, none⟩ = some (.int .u8 ((n : Int) % 256))) (h1 : W.cell? ⟨H, 1, none⟩ = some (.int .u8 ((n : Int) / 256))) :
    (convert 50 9 (.slice (some ⟨H, 0, none⟩) 2 2)).run Try.prog W = .ok (.string (twoB n)) W := by
  exact run_convert_bytes_back (P := Try.prog) W 50 9 5 ⟨H, 0, none⟩ 2 [UInt8.ofNat (n % 256), UInt8.ofNat (n / 256)] Try.underlying50 Try.underlying5 Try.underlying9 (fun j hj => by
    have hj' : j = 0 ∨ j = 1 := by simp at hj; omega
    have e0 : (n % 256) % 256 = n % 256 := by omega
    have e1 : (n / 256) % 256 = n / 256 := by omega
    rcases hj' with rfl | rfl
    · rw [Addr.add_lit]; exact h0.trans (by simp)
    · rw [Addr.add_lit]; exact h1.trans (by simp [e1]))

set_option maxHeartbeats 4000000 in
set_option maxRecDepth 20000 in
theorem l10Frame_any (b : ByteArray) (g o : Nat) (B : Nat) (v : Value) (ps : List PD) (wd hg mg bk : Nat) (w : World) (hb : b.size ≤ 2000000) (hwd : wd < 256) (hhg : hg < 256) (hmg : okN mg) (hbk : okN bk) (hps : ∀ p ∈ ps, p.okN) (hN : ps.length ≤ 48)
    (c0 : w.cell? ⟨g, o, none⟩ = some (.int .i64 wd)) (c1 : w.cell? ⟨g, o + 1, none⟩ = some (.int .i64 hg)) (c2 : w.cell? ⟨g, o + 2, none⟩ = some v) (c3 : w.cell? ⟨g, o + 3, none⟩ = some (.float .f32 mg)) (c4 : w.cell? ⟨g, o + 4, none⟩ = some (.float .f32 bk))
    (hown : w.ownsRow B 25 4 v ps.length (psCells ps)) (cb : ByteArray) (hcb : bodyB (headB wd hg mg bk ++ oneB ps.length) ps = cb) (hcz : cb.size ≤ 2000) :
    Calls Try.prog 75 #[.string b, .pointer (some ⟨g, o, none⟩)] w fun e w' => e = .returned (.string (frameB b cb)) ∧ Below w.heap.size w w' := by
  have HC := l10Cloud_any g o B v ps wd hg mg bk w hwd hhg hmg hbk hps hN c0 c1 c2 c3 c4 hown
  rw [hcb] at HC
  have HC := keep HC
  have hsz : (b ++ cb).size ≤ 100000000 := by rw [ByteArray.size_append]; omega
  have hck := fun w => l01Check_any 0 (b ++ cb) w hsz (by omega) (by omega)
  have hk := ckAt_bound (b ++ cb) (b ++ cb).size
  rw [List.take_of_length_le (by simp)] at hk
  obtain ⟨hk1, hk2⟩ := hk
  rw [← hk2] at hck
  have HK := keep hck
  have HD : Kept (frameB b cb = cb ++ twoB (ckAt (b ++ cb) (b ++ cb).size)) := keep rfl
  clear hck hk2 hown c0 c1 c2 c3 c4 hcb hps hmg hbk
  generalize ckAt (b ++ cb) (b ++ cb).size = n at *
  have a0 := and255 n (by omega)
  have a1 := and255 (n / 256) (by omega)
  have q1 : ((n / 256 : Nat) : Int) = (n : Int) / 256 := by omega
  have q2 : (n : Int) / 256 % 256 = (n : Int) / 256 := by omega
  rw [q1, q2] at a1
  have hn0 : (n : Int) ≤ 65002 := by omega
  have hcv : ∀ (W : World), (convert 50 9 (.slice (some ⟨W.heap.size, 0, none⟩) 2 2)).run Try.prog (W.alloc (.cells #[.int .u8 ((n : Int) % 256), .int .u8 ((n : Int) / 256)] 5)) = .ok (.string (twoB n)) (W.alloc (.cells #[.int .u8 ((n : Int) % 256), .int .u8 ((n : Int) / 256)] 5)) := fun W => run_twoB _ _ _ (by omega) (by simp) (by simp)
  rw [HD.out]
  clear q1 q2 hk1
  go_enter Try.func75, Try.ntmps75
  go_wp2_with fail
  refine HC.out.mono ?_
  rintro e w1 ⟨rfl, hb1⟩
  go_wp2_with fail
  refine (HK.out _).mono ?_
  rintro e w' ⟨rfl, rfl⟩
  go_wp2_with fail
  go_ret
  exact ⟨rfl, by have := hb1.size; go_grown⟩
end Go.Proofs.Ytafaabhnkjjkcaa
