/-
  slot: what a device holds after a text is written; what is told of it.
-/
import Derived.Test.YtfelkonmhfejdaaSlot5
namespace Go.Proofs.Ytfelkonmhfejdaa
set_option linter.unusedVariables false
set_option linter.unusedSimpArgs false

theorem wr_live {d : Dv} (l : Live d) (w : d.Wf) {lo hi n : Nat} {t : List UInt8} (h1 : lo ≤ hi) (h2 : hi ≤ d.n) (hfit : nCh t + 2 ≤ (hi - lo) * d.size) :
    (d.wr lo hi d.size n t).1 = 0 ∧ OkD d (d.wr lo hi d.size n t).2 ∧ zRows (d.wr lo hi d.size n t).2 lo (hi - lo) = encS n t ∧ (∀ j, (j < lo ∨ hi ≤ j) → ((d.wr lo hi d.size n t).2.z j).rows = (d.z j).rows) ∧ AllGood (d.wr lo hi d.size n t).2 := by
  obtain ⟨c1, c2, c3⟩ := clear_live (hi - lo) d lo l w (by omega)
  have hs := w.size
  have hd : (d.clear lo (hi - lo)).2.size = d.size := c2.size
  obtain ⟨p1, p2, p3, p4⟩ := puts_live (base := lo) (cnt := hi - lo) (ps := encS n t) enc_64 (encS n t) (d.clear lo (hi - lo)).2 0 c2.live c2.wf (by rw [c2.n]; omega) (by rw [encS_len, hd]; exact hfit) rfl (Nat.zero_le _) (fun m hm => by rw [c3, if_pos (by omega)]; simp [part])
  rw [hd] at p1 p2 p3 p4
  unfold Dv.wr
  rw [if_neg (by omega), if_neg (by omega), flush_live p2.live]
  have ok : OkD d ((d.clear lo (hi - lo)).2.puts lo d.size 0 (encS n t)).2.tick.flushed := OkD.trans c2 (OkD.trans p2 ⟨⟨p2.live.1, p2.live.dead⟩, p2.wf.tick.flushed, rfl, rfl⟩)
  refine ⟨rfl, ok, ?_, fun j hj => ?_, fun j => ?_⟩
  · refine zRows_part (by rw [ok.size]; omega) (by rw [encS_len, ok.size]; exact hfit) fun m hm => ?_
    rw [Dv.flushed_z, ok.size]
    exact p3 m hm
  · rw [Dv.flushed_z]
    show (((d.clear lo (hi - lo)).2.puts lo d.size 0 (encS n t)).2.z j).rows = _
    rw [p4 j (by omega), c3, if_neg (by omega)]
  · rw [Dv.flushed_z]

/-! ### What is told -/
structure SlInv (d : Dv) (f0 f1 f2 inn : Nat) (tx : List UInt8) (count : Nat) : Prop where
  odd0 : (zRows d f0 (f1 - f0)).any oddB = false
  odd1 : (zRows d f1 (f2 - f1)).any oddB = false
  le1 : inn ≤ 1
  here : 1 ≤ count → readS (if inn = 0 then zRows d f0 (f1 - f0) else zRows d f1 (f2 - f1)) = (tx, count)
  there : 1 ≤ count → (readS (if inn = 0 then zRows d f1 (f2 - f1) else zRows d f0 (f1 - f0))).2 < count
  none : count = 0 → inn = 1 ∧ tx = [] ∧ (readS (zRows d f0 (f1 - f0))).2 = 0 ∧ (readS (zRows d f1 (f2 - f1))).2 = 0
theorem SlInv.pick {d : Dv} {f0 f1 f2 inn count : Nat} {tx : List UInt8} (v : SlInv d f0 f1 f2 inn tx count) : pickS (zRows d f0 (f1 - f0)) (zRows d f1 (f2 - f1)) = (inn, (tx, count)) := by
  have hi := v.le1
  unfold pickS
  rcases Nat.eq_zero_or_pos count with h0 | h0
  · obtain ⟨rfl, rfl, h1, h2⟩ := v.none h0
    subst h0
    have hp : pick1 0 (readS (zRows d f0 (f1 - f0))) (1, ([], 0)) = (1, ([], 0)) := by unfold pick1; rw [if_neg (by simp only; omega)]
    rw [hp]
    unfold pick1; rw [if_neg (by simp only; omega)]
  · have hh := v.here h0
    have ht := v.there h0
    rcases (show inn = 0 ∨ inn = 1 by omega) with rfl | rfl
    · rw [if_pos rfl] at hh ht
      have hp : pick1 0 (readS (zRows d f0 (f1 - f0))) (1, ([], 0)) = (0, (tx, count)) := by unfold pick1; rw [hh, if_pos (by simp only; omega)]
      rw [hp]
      unfold pick1; rw [if_neg (by simp only; omega)]
    · rw [if_neg (by omega)] at hh ht
      have hp : (pick1 0 (readS (zRows d f0 (f1 - f0))) (1, ([], 0))).2.2 < count := by
        unfold pick1
        split
        · exact ht
        · exact h0
      generalize pick1 0 (readS (zRows d f0 (f1 - f0))) (1, ([], 0)) = p at hp
      rw [hh]
      unfold pick1
      exact if_pos hp
/-- another device that holds the same. -/
theorem SlInv.same {d d' : Dv} {f0 f1 f2 inn count : Nat} {tx : List UInt8} (v : SlInv d f0 f1 f2 inn tx count) (hs : d'.size = d.size) (hr : ∀ j, f0 ≤ j → j < f2 → (d'.z j).rows = (d.z j).rows) (h01 : f0 ≤ f1) (h12 : f1 ≤ f2) : SlInv d' f0 f1 f2 inn tx count := by
  have e0 : zRows d' f0 (f1 - f0) = zRows d f0 (f1 - f0) := zRows_congr hs _ _ fun j h1 h2 => hr j h1 (by omega)
  have e1 : zRows d' f1 (f2 - f1) = zRows d f1 (f2 - f1) := zRows_congr hs _ _ fun j h1 h2 => hr j (by omega) (by omega)
  obtain ⟨a, b, c, d1, e, f⟩ := v
  exact ⟨by rw [e0]; exact a, by rw [e1]; exact b, c, by rw [e0, e1]; exact d1, by rw [e0, e1]; exact e, by rw [e0, e1]; exact f⟩
theorem readS_nil : readS [] = ([], 0) := rfl
theorem SlInv.new {d : Dv} {f0 f1 f2 : Nat} (h : ∀ j, f0 ≤ j → j < f2 → (d.z j).rows = []) (h01 : f0 ≤ f1) (h12 : f1 ≤ f2) : SlInv d f0 f1 f2 1 [] 0 := by
  have e0 : zRows d f0 (f1 - f0) = [] := zRows_nil _ _ fun j h1 h2 => h j h1 (by omega)
  have e1 : zRows d f1 (f2 - f1) = [] := zRows_nil _ _ fun j h1 h2 => h j (by omega) (by omega)
  exact ⟨by rw [e0]; rfl, by rw [e1]; rfl, by omega, fun h => by omega, fun h => by omega, fun _ => ⟨rfl, rfl, by rw [e0]; rfl, by rw [e1]; rfl⟩⟩
/-- a text is written where the older one stood. -/
theorem SlInv.wrote {d d' : Dv} {f0 f1 f2 inn count : Nat} {tx t : List UInt8} (v : SlInv d f0 f1 f2 inn tx count) (h01 : f0 ≤ f1) (h12 : f1 ≤ f2) (hs : d'.size = d.size) (hc : count + 1 ≤ 1099511627776) (ht : t.length ≤ 1000000)
    (hw : zRows d' (if inn = 0 then f1 else f0) (if inn = 0 then f2 - f1 else f1 - f0) = encS (count + 1) t) (ho : ∀ j, f0 ≤ j → j < f2 → ¬ ((if inn = 0 then f1 else f0) ≤ j ∧ j < (if inn = 0 then f2 else f1)) → (d'.z j).rows = (d.z j).rows) :
    SlInv d' f0 f1 f2 (1 - inn) t (count + 1) := by
  have hi := v.le1
  have hodd : (encS (count + 1) t).any oddB = false := by
    rw [List.any_eq_false]
    intro p hp; rw [enc_odd hc ht p hp]; simp
  rcases (show inn = 0 ∨ inn = 1 by omega) with rfl | rfl
  · rw [if_pos rfl, if_pos rfl] at hw
    have e0 : zRows d' f0 (f1 - f0) = zRows d f0 (f1 - f0) := zRows_congr hs _ _ fun j h1 h2 => ho j h1 (by omega) (by simp; omega)
    refine ⟨by rw [e0]; exact v.odd0, by rw [hw]; exact hodd, by omega, fun _ => ?_, fun _ => ?_, fun h => by omega⟩
    · rw [if_neg (by omega), hw]; exact readS_enc hc ht
    · rw [if_neg (by omega), e0]
      rcases Nat.eq_zero_or_pos count with h0 | h0
      · have := (v.none h0).1; omega
      · have := v.here h0; rw [if_pos rfl] at this; rw [this]; simp only; omega
  · rw [if_neg (by omega), if_neg (by omega)] at hw
    have e1 : zRows d' f1 (f2 - f1) = zRows d f1 (f2 - f1) := zRows_congr hs _ _ fun j h1 h2 => ho j (by omega) (by omega) (by simp; omega)
    refine ⟨by rw [hw]; exact hodd, by rw [e1]; exact v.odd1, by omega, fun _ => ?_, fun _ => ?_, fun h => by omega⟩
    · rw [if_pos (by omega), hw]; exact readS_enc hc ht
    · rw [if_pos (by omega), e1]
      rcases Nat.eq_zero_or_pos count with h0 | h0
      · have := (v.none h0).2.2.2; omega
      · have := v.here h0; rw [if_neg (by omega)] at this; rw [this]; simp only; omega

end Go.Proofs.Ytfelkonmhfejdaa
