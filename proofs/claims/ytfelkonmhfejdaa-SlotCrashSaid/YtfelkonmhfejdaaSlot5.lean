/-
  slot: what is written is read (plain law).
-/
import Derived.Test.YtfelkonmhfejdaaSlot4
namespace Go.Proofs.Ytfelkonmhfejdaa
set_option linter.unusedVariables false
set_option linter.unusedSimpArgs false

/-! ### Reading what was encoded -/
theorem enc_good {k n l : Nat} {bs : List UInt8} (hk : 1 ≤ k ∧ k ≤ 4) (hn : n ≤ 1099511627776) (hl : l ≤ 1048576) (hb : bs.length ≤ 40) :
    goodB (encOf (preL k 0 n l bs)) ∧ dK (encOf (preL k 0 n l bs)) = k ∧ dS (encOf (preL k 0 n l bs)) = n ∧ dL (encOf (preL k 0 n l bs)) = l ∧ dB (encOf (preL k 0 n l bs)) = bs := by
  obtain ⟨g, gk, ge, gs, gl, gb⟩ := encL_good (k := k) (e := 0) (s := n) (l := l) (bs := bs) ⟨by omega, by omega, by omega, by omega⟩ hb
  exact ⟨⟨encOf_length (by rw [preL_length]; omega), g⟩, gk, gs, gl, gb⟩
theorem nCh_le {t : List UInt8} (ht : t.length ≤ 1000000) : nCh t ≤ 25001 := by unfold nCh; omega
/-- the chunks make the text. -/
theorem chunks_take (t : List UInt8) (k : Nat) : ((List.range k).map (chunkL t)).flatten = t.take (40 * k) := by
  induction k with
  | zero => simp
  | succ k ih =>
    rw [List.range_succ, List.map_append, List.flatten_append, ih]
    simp only [List.map_cons, List.map_nil, List.flatten_cons, List.flatten_nil, List.append_nil, chunkL]
    rw [show 40 * (k + 1) = 40 * k + 40 by omega, List.take_add]
theorem chunks_all (t : List UInt8) : ((List.range (nCh t)).map (chunkL t)).flatten = t := by
  rw [chunks_take, List.take_of_length_le (by unfold nCh; omega)]
/-- reading the Data blocks. -/
theorem readGo_data {n : Nat} (hn : n ≤ 1099511627776) (t : List UInt8) (r : List (List UInt8)) : ∀ (k j : Nat) (acc : List UInt8), 
    readGo ((List.range' j k).map (fun k => encOf (preL 1 0 n 0 (chunkL t k))) ++ r) (j + 1) acc n = readGo r (j + k + 1) (acc ++ ((List.range' j k).map (chunkL t)).flatten) n := by
  intro k
  induction k with
  | zero => intro j acc; simp
  | succ k ih =>
    intro j acc
    rw [List.range'_succ, List.map_cons, List.cons_append, readGo]
    obtain ⟨g, gk, gs, gl, gb⟩ := enc_good (k := 1) (l := 0) (bs := chunkL t j) (by omega) hn (by omega) (chunkL_len t j)
    rw [if_neg (fun h => h g), if_neg (by omega), if_neg (by omega), if_pos gk, gb, ih (j + 1)]
    rw [List.map_cons, List.flatten_cons, List.append_assoc, show j + 1 + k + 1 = j + (k + 1) + 1 by omega]
theorem readS_enc {n : Nat} (hn : n ≤ 1099511627776) {t : List UInt8} (ht : t.length ≤ 1000000) : readS (encS n t) = (t, n) := by
  unfold readS encS
  obtain ⟨g, gk, gs, gl, gb⟩ := enc_good (k := 3) (l := 0) (bs := []) (by omega) hn (by omega) (by simp)
  rw [readGo, if_neg (fun h => h g), if_pos ⟨rfl, gk⟩, gs]
  have := readGo_data hn t [encOf (preL 2 0 n (nCh t) (tailL t))] (nCh t) 0 []
  rw [← List.range_eq_range'] at this
  rw [show (0 : Nat) + 1 = 0 + 1 from rfl, this, List.nil_append, chunks_all]
  have hc := nCh_le ht
  obtain ⟨g2, gk2, gs2, gl2, gb2⟩ := enc_good (k := 2) (l := nCh t) (bs := tailL t) (by omega) hn (by omega) (by rw [tailL_len]; omega)
  rw [readGo, if_neg (fun h => h g2), if_neg (by omega), if_neg (by omega), if_neg (by omega), if_pos ⟨gk2, by omega, gb2⟩]
/-- what is not whole is none. -/
theorem readS_pre {n : Nat} (hn : n ≤ 1099511627776) {t : List UInt8} {k : Nat} (hk : k < (encS n t).length) {r : List (List UInt8)} (hr : r = [] ∨ ∃ q s, r = q :: s ∧ ¬ goodB q) : readS ((encS n t).take k ++ r) = ([], 0) := by
  have stop : ∀ i acc m, readGo r i acc m = ([], 0) := by
    intro i acc m
    rcases hr with rfl | ⟨q, s, rfl, hq⟩
    · rw [readGo]
    · rw [readGo, if_pos hq]
  rw [encS_len] at hk
  unfold readS encS
  rcases Nat.eq_zero_or_pos k with h0 | h0
  · subst h0; simp only [List.take_zero, List.nil_append]; exact stop _ _ _
  · obtain ⟨j, rfl⟩ : ∃ j, k = j + 1 := ⟨k - 1, by omega⟩
    obtain ⟨g, gk, gs, gl, gb⟩ := enc_good (k := 3) (l := 0) (bs := []) (by omega) hn (by omega) (by simp)
    rw [List.take_succ_cons, List.cons_append, readGo, if_neg (fun h => h g), if_pos ⟨rfl, gk⟩, gs, List.take_append_of_le_length (by simp; omega), ← List.map_take]
    have hrt : (List.range (nCh t)).take j = List.range' 0 j := by rw [List.take_range, Nat.min_eq_left (by omega), List.range_eq_range']
    rw [hrt, show (0 : Nat) + 1 = 0 + 1 from rfl, readGo_data hn t r j 0 []]
    exact stop _ _ _
theorem oddB_dK (p : List UInt8) : oddB p = decide (dK p < 1 ∨ 3 < dK p) := rfl
theorem enc_odd {n : Nat} (hn : n ≤ 1099511627776) {t : List UInt8} (ht : t.length ≤ 1000000) : ∀ p ∈ encS n t, oddB p = false := by
  intro p hp
  have hc := nCh_le ht
  rw [oddB_dK, decide_eq_false_iff_not]
  unfold encS at hp
  rcases List.mem_cons.1 hp with rfl | hp
  · have := (enc_good (k := 3) (l := 0) (bs := []) (by omega) hn (by omega) (by simp)).2.1; omega
  · rcases List.mem_append.1 hp with hp | hp
    · obtain ⟨k, _, rfl⟩ := List.mem_map.1 hp
      have := (enc_good (k := 1) (l := 0) (bs := chunkL t k) (by omega) hn (by omega) (chunkL_len t k)).2.1; omega
    · simp only [List.mem_cons, List.not_mem_nil, or_false] at hp
      subst hp
      have := (enc_good (k := 2) (l := nCh t) (bs := tailL t) (by omega) hn (by omega) (by rw [tailL_len]; omega)).2.1; omega
theorem enc_64 {n : Nat} {t : List UInt8} : ∀ p ∈ encS n t, p.length = 64 := by
  intro p hp
  unfold encS at hp
  rcases List.mem_cons.1 hp with rfl | hp
  · exact encOf_length (by rw [preL_length]; simp)
  · rcases List.mem_append.1 hp with hp | hp
    · obtain ⟨k, _, rfl⟩ := List.mem_map.1 hp
      exact encOf_length (by rw [preL_length]; have := chunkL_len t k; omega)
    · simp only [List.mem_cons, List.not_mem_nil, or_false] at hp
      subst hp
      exact encOf_length (by rw [preL_length, tailL_len]; omega)
end Go.Proofs.Ytfelkonmhfejdaa
