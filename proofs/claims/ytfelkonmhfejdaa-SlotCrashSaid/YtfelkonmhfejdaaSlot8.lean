/-
  slot: what is there when the power goes while a text is written.
-/
import Derived.Test.YtfelkonmhfejdaaSlot7
import Derived.Test.YtfelkonmhfejdaaTear
namespace Go.Proofs.Ytfelkonmhfejdaa
set_option linter.unusedVariables false
set_option linter.unusedSimpArgs false

theorem enc_sumOk {n : Nat} {t : List UInt8} : ∀ p ∈ encS n t, sumOk p := by
  intro p hp
  unfold encS at hp
  rcases List.mem_cons.1 hp with rfl | hp
  · exact encOf_sumOk (by rw [preL_length]; simp)
  · rcases List.mem_append.1 hp with hp | hp
    · obtain ⟨k, _, rfl⟩ := List.mem_map.1 hp
      exact encOf_sumOk (by rw [preL_length]; have := chunkL_len t k; omega)
    · simp only [List.mem_cons, List.not_mem_nil, or_false] at hp
      subst hp
      exact encOf_sumOk (by rw [preL_length, tailL_len]; omega)
/-- what a crash leaves of a text that was being written. -/
theorem enc_left {n : Nat} (hn : n ≤ 1099511627776) {t : List UInt8} (ht : t.length ≤ 1000000) {q : Nat} {r : List (List UInt8)} (hq : q ≤ (encS n t).length) (hr : r = [] ∨ ∃ hq : q < (encS n t).length, ∃ s, r = tornL (encS n t)[q] :: s) (hm : ∀ p ∈ r, p ∈ encS n t ∨ ∃ p' ∈ encS n t, p = tornL p') :
    ((encS n t).take q ++ r).any oddB = false ∧ (readS ((encS n t).take q ++ r) = ([], 0) ∨ (encS n t).take q ++ r = encS n t) := by
  constructor
  · rw [List.any_eq_false]
    intro p hp
    rcases List.mem_append.1 hp with hp | hp
    · rw [enc_odd hn ht p (List.mem_of_mem_take hp)]; simp
    · rcases hm p hp with h | ⟨p', h, rfl⟩
      · rw [enc_odd hn ht p h]; simp
      · have := enc_odd hn ht p' h
        rw [oddB_dK] at this ⊢
        rw [torn_dK (enc_64 p' h), this]; simp
  · rcases Nat.lt_or_ge q (encS n t).length with h | h
    · refine .inl (readS_pre hn h ?_)
      rcases hr with h | ⟨hq, s, h⟩
      · exact .inl h
      · exact .inr ⟨_, s, h, fun g => torn_bad (enc_64 _ (List.getElem_mem hq)) (enc_sumOk _ (List.getElem_mem hq)) g.2⟩
    · refine .inr ?_
      obtain rfl : q = (encS n t).length := by omega
      rcases hr with h | ⟨hq, _⟩
      · rw [h, List.take_length, List.append_nil]
      · omega
/-- a text is written, or the power goes; and what a crash makes of it then. -/
theorem wr_any {d : Dv} (w : d.Wf) (g : AllGood d) {lo hi n : Nat} {t : List UInt8} (h1 : lo < hi) (h2 : hi ≤ d.n) (hfit : nCh t + 2 ≤ (hi - lo) * d.size) (hn : n ≤ 1099511627776) (ht : t.length ≤ 1000000) :
    NxD d (d.wr lo hi d.size n t).2 ∧
    (((d.wr lo hi d.size n t).1 = 0 ∧ zRows (d.wr lo hi d.size n t).2 lo (hi - lo) = encS n t ∧ (∀ j, (j < lo ∨ hi ≤ j) → ((d.wr lo hi d.size n t).2.z j).rows = (d.z j).rows) ∧ AllGood (d.wr lo hi d.size n t).2) ∨
     ((d.wr lo hi d.size n t).1 = 12 ∧ ∀ picks torn, (∀ j, (j < lo ∨ hi ≤ j) → (((d.wr lo hi d.size n t).2.crash picks torn).z j).rows = (d.z j).rows) ∧
       (zRows ((d.wr lo hi d.size n t).2.crash picks torn) lo (hi - lo) = zRows d lo (hi - lo) ∨
        (zRows ((d.wr lo hi d.size n t).2.crash picks torn) lo (hi - lo)).any oddB = false ∧ (readS (zRows ((d.wr lo hi d.size n t).2.crash picks torn) lo (hi - lo)) = ([], 0) ∨ zRows ((d.wr lo hi d.size n t).2.crash picks torn) lo (hi - lo) = encS n t)))) := by
  have hs := w.size
  obtain ⟨c1, j, hj, c2, c3⟩ := clear_any (hi - lo) d lo w (by omega)
  have hd : (d.clear lo (hi - lo)).2.size = d.size := c1.size
  unfold Dv.wr
  generalize d.clear lo (hi - lo) = C at *
  obtain ⟨e1, d1⟩ := C
  simp only at c1 c2 c3 hd
  rcases c2 with ⟨rfl, rfl⟩ | rfl
  · -- all is empty
    rw [if_neg (by simp)]
    simp only
    obtain ⟨p1, q, _, hq, p2, p3, p4⟩ := puts_any (base := lo) (cnt := hi - lo) (ps := encS n t) enc_64 (encS n t) d1 0 c1.wf (by rw [c1.n]; omega) (by rw [encS_len, hd]; exact hfit) rfl (Nat.zero_le _) (fun m hm => by rw [c3, if_pos (by omega)]; simp [part])
    rw [hd] at p1 p2 p3 p4
    generalize d1.puts lo d.size 0 (encS n t) = P at *
    obtain ⟨e2, d2⟩ := P
    simp only at p1 p2 p3 p4
    have pn : d2.n = d.n := by rw [p1.n, c1.n]
    have ps : d2.size = d.size := by rw [p1.size, hd]
    have p3' : ∀ m, m < hi - lo → (d2.z (lo + m)).rows = part d.size ((encS n t).take q) m ∧ (d2.z (lo + m)).good = 0 := fun m hm => by
      refine ⟨(p3 m hm).1, ?_⟩
      rw [(p3 m hm).2, c3, if_pos (by omega)]
    have p4' : ∀ j, (j < lo ∨ hi ≤ j) → d2.z j = d.z j := fun j hj => by rw [p4 j (by omega), c3, if_neg (by omega)]
    -- a crash of it
    have cr : ∀ picks torn, (∀ j, (j < lo ∨ hi ≤ j) → ((d2.crash picks torn).z j).rows = (d.z j).rows) ∧ (zRows (d2.crash picks torn) lo (hi - lo)).any oddB = false ∧ (readS (zRows (d2.crash picks torn) lo (hi - lo)) = ([], 0) ∨ zRows (d2.crash picks torn) lo (hi - lo) = encS n t) := by
      intro picks torn
      refine ⟨fun j hj => ?_, ?_⟩
      · rw [crash_keep p1.wf picks torn (by rw [p4' j hj]; exact g j), p4' j hj]
      · have hql : ((encS n t).take q).length = q := by rw [List.length_take]; omega
        obtain ⟨q', r, h1', h2', h3', h4', h5'⟩ := crash_part p1.wf (ps := (encS n t).take q) (cnt := hi - lo) (base := lo) (g := 0) (by rw [pn]; omega) (by rw [hql, ps]; have := encS_len n t; omega) (Nat.zero_le _) (fun m hm => by rw [ps]; exact ⟨(p3' m hm).1, by rw [List.take_zero]; simp [part]⟩) picks torn
        rw [h1']
        rw [hql] at h3'
        have h3'' : q' ≤ q := by omega
        have htt : ((encS n t).take q).take q' = (encS n t).take q' := by rw [List.take_take, Nat.min_eq_left h3'']
        rw [htt]
        refine enc_left hn ht (by omega) ?_ fun p hp => ?_
        · rcases h4' with h | ⟨hq', s, h⟩
          · exact .inl h
          · refine .inr ⟨by omega, s, ?_⟩
            rw [h, List.getElem_take]
        · rcases h5' p hp with h | ⟨p', h, e⟩
          · exact .inl (List.mem_of_mem_take (List.mem_of_mem_drop h))
          · exact .inr ⟨p', List.mem_of_mem_take (List.mem_of_mem_drop h), e⟩
    rcases p2 with ⟨rfl, rfl⟩ | rfl
    · rw [if_neg (by simp)]
      rw [List.take_length] at p3'
      rcases flush_any d2 with e | e
      · rw [e]
        refine ⟨NxD.trans c1 (NxD.trans p1 (NxD.tick p1.wf)), .inr ⟨rfl, fun picks torn => ?_⟩⟩
        obtain ⟨x1, x2⟩ := cr picks torn
        exact ⟨x1, .inr x2⟩
      · rw [e]
        refine ⟨NxD.trans c1 (NxD.trans p1 ⟨p1.wf.tick.flushed, rfl, rfl⟩), .inl ⟨rfl, ?_, fun j hj => ?_, fun j => ?_⟩⟩
        · refine zRows_part (show 1 ≤ d2.size by omega) (by rw [encS_len]; show _ ≤ (hi - lo) * d2.size; rw [ps]; exact hfit) fun m hm => ?_
          rw [Dv.flushed_z]
          show (d2.z (lo + m)).rows = part d2.size _ m
          rw [ps]; exact (p3' m hm).1
        · rw [Dv.flushed_z]
          show (d2.z j).rows = _
          rw [p4' j hj]
        · rw [Dv.flushed_z]
    · rw [if_pos (by simp)]
      refine ⟨NxD.trans c1 p1, .inr ⟨rfl, fun picks torn => ?_⟩⟩
      obtain ⟨x1, x2⟩ := cr picks torn
      exact ⟨x1, .inr x2⟩
  · -- the power went while it was emptied
    rw [if_pos (by simp)]
    refine ⟨c1, .inr ⟨rfl, fun picks torn => ?_⟩⟩
    have hz : ∀ i, ((d1.crash picks torn).z i).rows = if lo ≤ i ∧ i < lo + j then [] else (d.z i).rows := fun i => by
      rw [crash_keep c1.wf picks torn (by rw [c3]; split; rfl; exact g i), c3]
      split <;> rfl
    refine ⟨fun i hi' => by rw [hz, if_neg (by omega)], ?_⟩
    rcases Nat.eq_zero_or_pos j with h0 | h0
    · have hd' : (d1.crash picks torn).size = d.size := hd
      exact .inl (zRows_congr hd' _ _ fun i h3 h4 => by rw [hz, if_neg (by omega)])
    · have : zRows (d1.crash picks torn) lo (hi - lo) = [] := by
        obtain ⟨c, hc⟩ : ∃ c, hi - lo = c + 1 := ⟨hi - lo - 1, by omega⟩
        rw [hc, zRows, hz, if_pos (by omega)]
        have h0 : (d1.crash picks torn).size = d.size := hd
        simp [h0]; omega
      rw [this]
      exact .inr ⟨rfl, .inl rfl⟩
/-- slots whose device lost power while a text was written, and crashed. -/
theorem SlInv.crashed {d d' : Dv} {f0 f1 f2 inn count : Nat} {tx t : List UInt8} (v : SlInv d f0 f1 f2 inn tx count) (h01 : f0 ≤ f1) (h12 : f1 ≤ f2) (hs : d'.size = d.size) (hc : count + 1 ≤ 1099511627776) (ht : t.length ≤ 1000000)
    (ho : ∀ j, (j < (if inn = 0 then f1 else f0) ∨ (if inn = 0 then f2 else f1) ≤ j) → (d'.z j).rows = (d.z j).rows)
    (hw : zRows d' (if inn = 0 then f1 else f0) (if inn = 0 then f2 - f1 else f1 - f0) = zRows d (if inn = 0 then f1 else f0) (if inn = 0 then f2 - f1 else f1 - f0) ∨
      (zRows d' (if inn = 0 then f1 else f0) (if inn = 0 then f2 - f1 else f1 - f0)).any oddB = false ∧ (readS (zRows d' (if inn = 0 then f1 else f0) (if inn = 0 then f2 - f1 else f1 - f0)) = ([], 0) ∨ zRows d' (if inn = 0 then f1 else f0) (if inn = 0 then f2 - f1 else f1 - f0) = encS (count + 1) t)) :
    SlInv d' f0 f1 f2 inn tx count ∨ SlInv d' f0 f1 f2 (1 - inn) t (count + 1) := by
  have hi := v.le1
  rcases hw with hw | ⟨hodd, hw | hw⟩
  · left
    rcases (show inn = 0 ∨ inn = 1 by omega) with rfl | rfl
    · simp only [if_true] at hw ho
      have e0 : zRows d' f0 (f1 - f0) = zRows d f0 (f1 - f0) := zRows_congr hs _ _ fun j h1 h2 => ho j (by omega)
      exact ⟨by rw [e0]; exact v.odd0, by rw [hw]; exact v.odd1, v.le1, by rw [e0, hw]; exact v.here, by rw [e0, hw]; exact v.there, by rw [e0, hw]; exact v.none⟩
    · rw [if_neg (by omega), if_neg (by omega)] at hw
      rw [if_neg (by omega), if_neg (by omega)] at ho
      have e1 : zRows d' f1 (f2 - f1) = zRows d f1 (f2 - f1) := zRows_congr hs _ _ fun j h1 h2 => ho j (by omega)
      exact ⟨by rw [hw]; exact v.odd0, by rw [e1]; exact v.odd1, v.le1, by rw [e1, hw]; exact v.here, by rw [e1, hw]; exact v.there, by rw [e1, hw]; exact v.none⟩
  · left
    rcases (show inn = 0 ∨ inn = 1 by omega) with rfl | rfl
    · simp only [if_true] at hw ho hodd
      have e0 : zRows d' f0 (f1 - f0) = zRows d f0 (f1 - f0) := zRows_congr hs _ _ fun j h1 h2 => ho j (by omega)
      have h0 : 1 ≤ count := by
        rcases Nat.eq_zero_or_pos count with h | h
        · have := (v.none h).1; omega
        · exact h
      refine ⟨by rw [e0]; exact v.odd0, hodd, v.le1, fun h => ?_, fun h => ?_, fun h => by omega⟩
      · rw [if_pos rfl, e0]; have := v.here h; rwa [if_pos rfl] at this
      · rw [if_pos rfl, hw]; exact h
    · rw [if_neg (by omega), if_neg (by omega)] at hw hodd
      rw [if_neg (by omega), if_neg (by omega)] at ho
      have e1 : zRows d' f1 (f2 - f1) = zRows d f1 (f2 - f1) := zRows_congr hs _ _ fun j h1 h2 => ho j (by omega)
      refine ⟨hodd, by rw [e1]; exact v.odd1, v.le1, fun h => ?_, fun h => ?_, fun h => ?_⟩
      · rw [if_neg (by omega), e1]; have := v.here h; rwa [if_neg (by omega)] at this
      · rw [if_neg (by omega), hw]; exact h
      · obtain ⟨_, a, b, c⟩ := v.none h
        exact ⟨rfl, a, by rw [hw], by rw [e1]; exact c⟩
  · right
    refine v.wrote h01 h12 hs hc ht hw fun j h1 h2 h3 => ho j (by omega)

end Go.Proofs.Ytfelkonmhfejdaa
