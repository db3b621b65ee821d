/- Plain laws of a journal that is cut, or bent, over the texts that the walk meets. No program in sight. -/
import Derived.Test.YtldnldgndjbhfaaDoorWi
import Derived.Test.YtldnldgndjbhfaaDoorTz
namespace Go.Proofs.YtldnldgndjbhfaaDoor
open Go.RowKit Go.Sort Ieee

theorem jres_lines (l : List (List UInt8)) (h : ∀ p ∈ l, ∀ b ∈ p, b ≠ 10) (hl : (jrn 0 l).length ≤ 12000) : jres (l.map tx) = .tuple #[.string (tx (jrn 0 l)), .bool true] := by
  have e1 : (l.map tx).map (·.data.toList) = l := by
    rw [List.map_map]
    exact (List.map_congr_left (fun p _ => tx_bytes p)).trans (List.map_id _)
  have e2 : (jst (l.map tx)).2 = jrn 0 l := by rw [jst_jrn, e1]
  rw [jres_yes (good_all _ (fun k hk => ?_) (by rw [e2]; exact hl)), e2]
  · rfl
  · have hk' : k < l.length := by rwa [List.length_map] at hk
    rw [List.getElem_map]
    unfold nl
    rw [tx_bytes]
    cases hc : l[k].contains 10
    · rfl
    · exact absurd rfl (h _ (List.getElem_mem hk') 10 (by simpa using hc))

/-- What is recovered of a text of at most 12000 bytes. -/
structure Rec (x : List UInt8) (q : List (List UInt8) × Nat) : Prop where
  jr : JR (tx x) = q
  le : q.2 ≤ x.length
  res : jres (q.1.map tx) = .tuple #[.string (tx (x.take q.2)), .bool true]
  ok : decide ((tx x).size ≤ 12000) = true
theorem rec_ok (x : List UInt8) (h : x.length ≤ 12000) : Rec x (recov 0 (parts 10 [] x).dropLast) := by
  have hb := recov_begin x
  have hs : (tx x).size ≤ 12000 := by rw [tx_size]; exact h
  refine ⟨?_, hb.2, ?_, decide_eq_true hs⟩
  · unfold JR
    rw [if_pos hs]
    unfold lnsOf
    rw [tx_bytes]
  · have hm := recov_mark (parts 10 [] x).dropLast 0 (fun p hp => parts_mark x [] (fun b hb => by cases hb) p ((List.dropLast_sublist _).subset hp))
    rw [jres_lines _ hm (by rw [hb.1, List.length_take]; omega), hb.1]

/-- A journal of few lines. -/
theorem journal_ok (L : List ByteArray) (hn : L.length ≤ 5) (hp : ∀ s ∈ L, Pl 500 s) :
    ∃ T : List UInt8, T.length ≤ 3000 ∧ jres L = .tuple #[.string (tx T), .bool true] ∧ (T.length = 0 → L.length = 0) ∧ small L ∧
      ∀ at', at' < T.length → ∃ q : List (List UInt8) × Nat, Rec (T.take at') q ∧ q.2 ≤ at' ∧ q.1.length = cnt (T.take at') ∧ q.1.length ≤ L.length ∧ (∀ i (h : i < q.1.length) (h2 : i < L.length), tx q.1[i] = L[i]) ∧
        ∀ c, ∃ r : List (List UInt8) × Nat, Rec (T.take at' ++ c :: T.drop (at' + 1)) r ∧ q.2 ≤ r.2 := by
  have hsum : tot L ≤ 500 * L.length := by
    clear hn
    induction L with
    | nil => simp [tot]
    | cons s r ih =>
      have h1 := (hp s (.head _)).1
      have h2 := ih (fun x hx => hp x (.tail _ hx))
      unfold tot at *
      rw [List.map_cons, List.sum_cons, List.length_cons]
      omega
  have hlen := jst_len L
  have hj := jst_jrn L
  have hT : (jrn 0 (L.map (·.data.toList))).length ≤ 3000 := by rw [← hj]; omega
  have hT0 : (jrn 0 (L.map (·.data.toList))).length = 0 → L.length = 0 := by rw [← hj]; omega
  have hm : ∀ p ∈ L.map (·.data.toList), ∀ b ∈ p, b ≠ 10 := by
    intro p hq
    obtain ⟨s, hs, rfl⟩ := List.mem_map.1 hq
    exact (hp s hs).2
  have hid : (L.map (·.data.toList)).map tx = L := by
    rw [List.map_map]
    exact (List.map_congr_left (fun s _ => (tx_of s).symm)).trans (List.map_id _)
  have hres := jres_lines _ hm (by omega)
  rw [hid] at hres
  refine ⟨jrn 0 (L.map (·.data.toList)), hT, hres, hT0, by unfold small; omega, fun at' hat => ?_⟩
  obtain ⟨h1, h2, h3, h4⟩ := cut_law _ hm at' (Nat.le_of_lt hat)
  rw [List.length_map] at h2
  refine ⟨_, rec_ok _ (by rw [List.length_take]; omega), h3, by rw [h1, List.length_take, List.length_map]; omega, by rw [h1, List.length_take, List.length_map]; omega, fun i hi hi2 => ?_, fun c => ⟨_, rec_ok _ (by rw [List.length_append, List.length_take, List.length_cons, List.length_drop]; omega), h4 c⟩⟩
  have e : ∀ (x : List (List UInt8)) (hx : i < x.length), x = (L.map (·.data.toList)).take (cnt ((jrn 0 (L.map (·.data.toList))).take at')) → tx x[i] = L[i] := by
    rintro x hx rfl
    rw [List.getElem_take, List.getElem_map]
    exact (tx_of _).symm
  exact e _ hi h1
end Go.Proofs.YtldnldgndjbhfaaDoor
