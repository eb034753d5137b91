/-
  seglog: opening (plain law).
-/
import Derived.Test.YtippdkokbhejmaaLog1
namespace Go.Proofs.Ytippdkokbhejmaa
set_option linter.unusedVariables false
set_option linter.unusedSimpArgs false

noncomputable def Dv.mend (d : Dv) (base size pos : Nat) : Nat → Nat → Int × Dv
  | _, 0 => (0, d)
  | i, k + 1 => if (d.z (base + i)).rows.length = 0 then Dv.mend d base size pos (i + 1) k else if i * size < pos then Dv.mend d base size pos (i + 1) k else
    if (d.reset ((base + i : Nat) : Int)).1 ≠ 0 then d.reset ((base + i : Nat) : Int) else Dv.mend (d.reset ((base + i : Nat) : Int)).2 base size pos (i + 1) k
noncomputable def mendV (d : Dv) (S : LgV) : Int × Dv :=
  if (d.mend (S.base S.half) S.size S.pos 0 S.count).1 ≠ 0 then d.mend (S.base S.half) S.size S.pos 0 S.count else (d.mend (S.base S.half) S.size S.pos 0 S.count).2.flush
theorem mend_any {base size pos : Nat} : ∀ (k : Nat) (d : Dv) (i : Nat), d.Wf → base + i + k ≤ d.n → NxD d (d.mend base size pos i k).2 ∧ ((d.mend base size pos i k).1 = 0 ∨ (d.mend base size pos i k).1 = 12) ∧
    (∀ j, (j < base + i ∨ base + i + k ≤ j) → (d.mend base size pos i k).2.z j = d.z j) ∧ (∀ m, i ≤ m → m < i + k → (d.mend base size pos i k).2.z (base + m) = d.z (base + m) ∨ (pos ≤ m * size ∧ (d.mend base size pos i k).2.z (base + m) = ⟨[], 0⟩)) ∧
    ((d.mend base size pos i k).1 = 0 → ∀ m, i ≤ m → m < i + k → pos ≤ m * size → ((d.mend base size pos i k).2.z (base + m)).rows = []) := by
  intro k
  induction k with
  | zero => intro d i w h; exact ⟨⟨w, rfl, rfl⟩, .inl rfl, fun _ _ => rfl, fun m h1 h2 => by omega, fun _ m h1 h2 => by omega⟩
  | succ k ih =>
    intro d i w h
    have hzn : base + i < d.zs.length := by have := w.n; omega
    rw [Dv.mend]
    have more : ∀ (d1 : Dv), d1.Wf → d1.n = d.n → d1.size = d.size → (∀ j, j ≠ base + i → d1.z j = d.z j) → (d1.z (base + i) = d.z (base + i) ∨ (pos ≤ i * size ∧ d1.z (base + i) = ⟨[], 0⟩)) → (pos ≤ i * size → (d1.z (base + i)).rows = []) →
        NxD d (d1.mend base size pos (i + 1) k).2 ∧ ((d1.mend base size pos (i + 1) k).1 = 0 ∨ (d1.mend base size pos (i + 1) k).1 = 12) ∧
        (∀ j, (j < base + i ∨ base + i + (k + 1) ≤ j) → (d1.mend base size pos (i + 1) k).2.z j = d.z j) ∧ (∀ m, i ≤ m → m < i + (k + 1) → (d1.mend base size pos (i + 1) k).2.z (base + m) = d.z (base + m) ∨ (pos ≤ m * size ∧ (d1.mend base size pos (i + 1) k).2.z (base + m) = ⟨[], 0⟩)) ∧
        ((d1.mend base size pos (i + 1) k).1 = 0 → ∀ m, i ≤ m → m < i + (k + 1) → pos ≤ m * size → ((d1.mend base size pos (i + 1) k).2.z (base + m)).rows = []) := by
      intro d1 w1 hn1 hs1 ho hi he
      obtain ⟨h1, h2, h3, h4, h5⟩ := ih d1 (i + 1) w1 (by omega)
      have hz : (d1.mend base size pos (i + 1) k).2.z (base + i) = d1.z (base + i) := h3 _ (by omega)
      refine ⟨NxD.trans ⟨w1, hn1, hs1⟩ h1, h2, fun j hj => by rw [h3 j (by omega), ho j (by omega)], fun m hm1 hm2 => ?_, fun h0 m hm1 hm2 hp => ?_⟩
      · rcases Nat.lt_or_ge i m with hlt | hge
        · rcases h4 m (by omega) (by omega) with h | h
          · left; rw [h, ho _ (by omega)]
          · exact .inr h
        · obtain rfl : m = i := by omega
          rw [hz]; exact hi
      · rcases Nat.lt_or_ge i m with hlt | hge
        · exact h5 h0 m (by omega) (by omega) hp
        · obtain rfl : m = i := by omega
          rw [hz]; exact he hp
    by_cases hz : (d.z (base + i)).rows.length = 0
    · rw [if_pos hz]
      exact more d w rfl rfl (fun _ _ => rfl) (.inl rfl) (fun _ => List.eq_nil_of_length_eq_zero hz)
    · rw [if_neg hz]
      by_cases hp : i * size < pos
      · rw [if_pos hp]
        exact more d w rfl rfl (fun _ _ => rfl) (.inl rfl) (fun h => by omega)
      · rw [if_neg hp]
        rcases reset_any (d := d) (k := base + i) (by omega) with e | e
        · rw [e, if_pos (by simp)]
          exact ⟨NxD.tick w, .inr rfl, fun _ _ => rfl, fun m _ _ => .inl rfl, fun h => by cases h⟩
        · rw [e, if_neg (by simp)]
          refine more _ (w.tick.setZ _ (wf_empty _)) rfl rfl (fun j hj => ?_) (.inr ⟨by omega, ?_⟩) (fun _ => ?_)
          · rw [d.tick.z_set hzn, if_neg hj]; rfl
          · rw [d.tick.z_set hzn, if_pos rfl]
          · rw [d.tick.z_set hzn, if_pos rfl]
theorem mendV_any {d : Dv} {S : LgV} (v : LgPre d S) (hp : S.pos = (S.B d).length) : NxD d (mendV d S).2 ∧ (∀ j, (j < S.low ∨ S.low + 2 * S.count ≤ j) → ((mendV d S).2.z j).rows = (d.z j).rows) ∧ LgPre (mendV d S).2 S ∧ ((mendV d S).1 = 0 ∧ LgInv (mendV d S).2 S ∨ (mendV d S).1 = 12) := by
  have w := v.wf
  have hs := w.size
  have hsz := v.size
  have hn := v.n
  have hh := v.half
  have hhc : S.half * S.count ≤ 1 * S.count := Nat.mul_le_mul_right _ hh
  have hbn : S.base S.half + 0 + S.count ≤ d.n := by unfold LgV.base; omega
  obtain ⟨m1, m2, m3, m4, m5⟩ := mend_any (base := S.base S.half) (size := S.size) (pos := S.pos) S.count d 0 w hbn
  unfold mendV
  generalize d.mend (S.base S.half) S.size S.pos 0 S.count = M at *
  obtain ⟨e, d1⟩ := M
  simp only [Nat.add_zero, Nat.zero_add] at m1 m2 m3 m4 m5
  have g1 : AllGood d1 := fun j => by
    by_cases hj : S.base S.half ≤ j ∧ j < S.base S.half + S.count
    · obtain ⟨m, rfl⟩ : ∃ m, j = S.base S.half + m := ⟨j - S.base S.half, by omega⟩
      rcases m4 m (by omega) (by omega) with h | ⟨_, h⟩
      · rw [h]; exact v.good _
      · rw [h]; rfl
    · rw [m3 j (by omega)]; exact v.good j
  -- what is read is the same
  have rd : ∀ (d2 : Dv), d2.size = d.size → (∀ j, (d2.z j).rows = (d1.z j).rows) → S.B d2 = S.B d ∧ S.X d2 = S.X d := by
    intro d2 hz2 hr2
    constructor
    · unfold LgV.B
      refine zRows_mend w hz2 S.count (S.base S.half) (fun m hm hl => ?_) (fun m hm => ?_)
      · rw [hr2]
        rcases m4 m (by omega) hm with h | ⟨h, _⟩
        · rw [h]
        · have hl' : m * d.size < (S.B d).length := hl
          rw [hsz] at h; omega
      · rw [hr2]
        rcases m4 m (by omega) hm with h | ⟨_, h⟩
        · left; rw [h]
        · right; rw [h]
    · unfold LgV.X
      refine zRows_congr hz2 _ _ fun j h1 h2 => ?_
      rw [hr2, m3 j ?_]
      unfold LgV.base at *
      rcases (show S.half = 0 ∨ S.half = 1 by omega) with e | e
      · rw [e] at h1 h2 ⊢; simp at h1 h2 ⊢; omega
      · rw [e] at h1 h2 ⊢; simp at h1 h2 ⊢; omega
  have pre : ∀ (d2 : Dv), d2.Wf → d2.n = d.n → d2.size = d.size → AllGood d2 → (∀ j, (d2.z j).rows = (d1.z j).rows) → LgPre d2 S := by
    intro d2 w2 hn2 hz2 g2 hr2
    obtain ⟨hB, hX⟩ := rd d2 hz2 hr2
    exact ⟨w2, by rw [hn2]; exact hn, v.cnt, by rw [hz2]; exact hsz, hh, g2, by rw [hB]; exact v.kc, by rw [hX]; exact v.ko, by rw [hB]; exact v.scan, by rw [hX]; exact v.oth, v.ep⟩
  have outer : ∀ j, (j < S.low ∨ S.low + 2 * S.count ≤ j) → (d1.z j).rows = (d.z j).rows := fun j hj => by rw [m3 j (by unfold LgV.base; omega)]
  rcases m2 with h0 | h0
  · subst h0
    rw [if_neg (by simp)]
    rcases flush_any d1 with e | e
    · rw [e]
      exact ⟨NxD.trans m1 (NxD.tick m1.wf), outer, pre d1.tick m1.wf.tick m1.n m1.size g1 (fun _ => rfl), .inr rfl⟩
    · rw [e]
      have wf := m1.wf.tick.flushed
      have hfz : ∀ j, (d1.tick.flushed.z j).rows = (d1.z j).rows := fun j => by rw [Dv.flushed_z]; rfl
      have hp' := pre d1.tick.flushed wf m1.n m1.size (fun j => by rw [Dv.flushed_z]) hfz
      obtain ⟨hB, hX⟩ := rd d1.tick.flushed m1.size hfz
      refine ⟨NxD.trans m1 ⟨wf, rfl, rfl⟩, fun j hj => by rw [hfz]; exact outer j hj, hp', .inl ⟨rfl, hp', by rw [hB]; exact hp, fun m hm => ?_⟩⟩
      rw [hfz, hB]
      by_cases hl : m * S.size < (S.B d).length
      · have : (d1.z (S.base S.half + m)).rows = (d.z (S.base S.half + m)).rows := by
          rcases m4 m (by omega) hm with h | ⟨h, _⟩
          · rw [h]
          · omega
        rw [this, hsz]
        exact zRows_at w S.count (S.base S.half) m hm (by rw [← hsz]; exact hl)
      · rw [m5 rfl m (by omega) hm (by omega), part_nil (by omega)]
  · subst h0
    rw [if_pos (by simp)]
    exact ⟨m1, outer, pre d1 m1.wf m1.n m1.size g1 (fun _ => rfl), .inr rfl⟩
theorem Live.mend {base size pos : Nat} : ∀ (k : Nat) (d : Dv) (i : Nat), Live d → (d.mend base size pos i k).1 ≠ 12 ∧ Live (d.mend base size pos i k).2 := by
  intro k
  induction k with
  | zero => intro d i l; exact ⟨by show (0 : Int) ≠ 12; decide, l⟩
  | succ k ih =>
    intro d i l
    rw [Dv.mend]
    split
    · exact ih d (i + 1) l
    split
    · exact ih d (i + 1) l
    split
    · exact l.reset _
    · exact ih _ (i + 1) (l.reset _).2
theorem Live.mendV {d : Dv} (l : Live d) (S : LgV) : (mendV d S).1 ≠ 12 ∧ Live (mendV d S).2 := by
  unfold Go.Proofs.Ytippdkokbhejmaa.mendV
  have := Live.mend (base := S.base S.half) (size := S.size) (pos := S.pos) S.count d 0 l
  split
  · exact this
  · exact this.2.flush

/-! ### Which half has the log -/
open Classical in
noncomputable def pkS (half : Nat) (B : List (List UInt8)) (best : Option (Nat × Sc × Nat)) : Option (Nat × Sc × Nat) :=
  if (scanL B).valid = true ∧ (∀ b, best = some b → b.2.1.epoch < (scanL B).epoch) ∧ ((scanL B).headed = true ∨ half = 0) then some (half, scanL B, B.length) else best
noncomputable def pkN (B0 B1 : List (List UInt8)) : Nat → Option (Nat × Sc × Nat)
  | 0 => none
  | 1 => pkS 0 B0 none
  | _ => pkS 1 B1 (pkS 0 B0 none)
def ofPk (low count size : Nat) : Option (Nat × Sc × Nat) → LgV
  | none => ⟨low, count, size, 0, 0, 0, 0, [], false⟩
  | some (h, s, p) => ⟨low, count, size, h, s.epoch, p, s.first, s.recs, false⟩
theorem pk_pre {d : Dv} {S : LgV} (v : LgPre d S) : pkN (zRows d S.low S.count) (zRows d (S.low + S.count) S.count) 2 = some (S.half, scanL (S.B d), (S.B d).length) := by
  obtain ⟨hd, hsc, hor⟩ := v.scan
  simp only [Sc.core, Prod.mk.injEq] at hsc
  obtain ⟨c1, c2, c3, c4, c5⟩ := hsc
  have ho := v.oth
  have hh := v.half
  show pkS 1 _ (pkS 0 _ none) = _
  rcases (show S.half = 0 ∨ S.half = 1 by omega) with e | e
  · have hB : S.B d = zRows d S.low S.count := by unfold LgV.B; rw [e, LgV.base0]
    have hX : S.X d = zRows d (S.low + S.count) S.count := by unfold LgV.X; rw [e, LgV.base1]
    rw [hX] at ho
    rw [hB] at c1 c2 c3 c4 c5 ⊢
    have h1 : pkS 0 (zRows d S.low S.count) none = some (0, scanL (zRows d S.low S.count), (zRows d S.low S.count).length) := by
      unfold pkS; rw [if_pos ⟨c2, fun b hb => (by cases hb), .inr rfl⟩]
    rw [h1, e]
    unfold pkS
    rw [if_neg]
    rintro ⟨g1, g2, g3⟩
    have := g2 _ rfl
    have := ho g1 (by rcases g3 with h | h; exact .inl h; omega)
    simp only at *
    omega
  · have hB : S.B d = zRows d (S.low + S.count) S.count := by unfold LgV.B; rw [e, LgV.base1]
    have hX : S.X d = zRows d S.low S.count := by unfold LgV.X; rw [e, LgV.base0]
    rw [hX] at ho
    rw [hB] at c1 c2 c3 c4 c5 ⊢
    rw [e]
    unfold pkS
    rw [if_pos]
    refine ⟨c2, fun b hb => ?_, .inl (by rcases hor with h | h; rw [c1, h]; omega)⟩
    split at hb
    · rename_i h
      cases hb
      have := ho h.1 (.inr e)
      simp only
      omega
    · cases hb
theorem of_pre {d : Dv} {S : LgV} (v : LgPre d S) : ofPk S.low S.count S.size (some (S.half, scanL (S.B d), (S.B d).length)) = { S with pos := (S.B d).length, off := false } := by
  obtain ⟨hd, hsc, hor⟩ := v.scan
  simp only [Sc.core, Prod.mk.injEq] at hsc
  obtain ⟨c1, c2, c3, c4, c5⟩ := hsc
  unfold ofPk
  simp only
  rw [c3, c4, c5]

end Go.Proofs.Ytippdkokbhejmaa
