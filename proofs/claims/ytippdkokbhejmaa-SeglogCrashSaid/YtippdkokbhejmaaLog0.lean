/-
  seglog (chapter 18), in plain terms: what a half's blocks say.
-/
import Derived.Test.YtippdkokbhejmaaTear
namespace Go.Proofs.Ytippdkokbhejmaa
set_option linter.unusedVariables false
set_option linter.unusedSimpArgs false

/-- what a half's blocks say. -/
structure Sc where
  headed : Bool
  valid : Bool
  epoch : Nat
  first : Nat
  recs : List (List UInt8)
  wait : List (List UInt8)
/-- all but what no Commit counts yet. -/
def Sc.core (s : Sc) : Bool × Bool × Nat × Nat × List (List UInt8) := (s.headed, s.valid, s.epoch, s.first, s.recs)
def sumL (l : List (List UInt8)) : List UInt8 := leB 4 (crcN (l.flatMap fun r => UInt8.ofNat r.length :: r))
open Classical in
noncomputable def commitS (s : Sc) (c : List UInt8) : Sc :=
  if s.wait.length < dL c then { s with wait := [] } else
  if (s.wait.drop (s.wait.length - dL c)).map dS ≠ List.range' (s.first + s.recs.length) (dL c) then { s with wait := [] } else
  if dB c ≠ sumL ((s.wait.drop (s.wait.length - dL c)).map dB) then { s with wait := [] } else
  { s with valid := true, recs := s.recs ++ (s.wait.drop (s.wait.length - dL c)).map dB, wait := [] }
def markS (s : Sc) (k : Nat) : Sc :=
  if s.first ≤ k ∧ k ≤ s.first + s.recs.length then { s with recs := s.recs.drop (k - s.first), first := k, wait := [] } else { s with wait := [] }
open Classical in
noncomputable def stepB (i : Nat) (s : Sc) (p : List UInt8) : Sc :=
  if ¬ goodB p then { s with wait := [] } else
  if i = 0 ∧ dK p = 3 then { s with headed := true, valid := false, epoch := dE p, first := dS p } else
  if dE p ≠ s.epoch then { s with wait := [] } else
  if dK p = 1 then { s with wait := s.wait ++ [p] } else
  if dK p = 2 then commitS s p else
  if dK p = 4 then markS s (dS p) else s
noncomputable def scanGo : List (List UInt8) → Nat → Sc → Sc
  | [], _, s => s
  | p :: r, i, s => scanGo r (i + 1) (stepB i s p)
def sc0 : Sc := ⟨false, true, 0, 0, [], []⟩
noncomputable def scanL (B : List (List UInt8)) : Sc := scanGo B 0 sc0
theorem scanGo_append : ∀ (a b : List (List UInt8)) (i : Nat) (s : Sc), scanGo (a ++ b) i s = scanGo b (i + a.length) (scanGo a i s)
  | [], b, i, s => rfl
  | p :: a, b, i, s => by
    rw [List.cons_append, scanGo, scanGo_append a b (i + 1), scanGo, List.length_cons, show i + 1 + a.length = i + (a.length + 1) by omega]
theorem scanL_append (a b : List (List UInt8)) : scanL (a ++ b) = scanGo b a.length (scanL a) := by
  unfold scanL; rw [scanGo_append, Nat.zero_add]

/-! ### What is written -/
def datB (e f : Nat) (r : List UInt8) : List UInt8 := encOf (preL 1 e f 0 r)
def datL (e : Nat) : Nat → List (List UInt8) → List (List UInt8)
  | _, [] => []
  | f, r :: l => datB e f r :: datL e (f + 1) l
def comB (e f : Nat) (R : List (List UInt8)) : List UInt8 := encOf (preL 2 e f R.length (sumL R))
def grpL (e f : Nat) (R : List (List UInt8)) : List (List UInt8) := datL e f R ++ [comB e f R]
def headB (e f : Nat) : List UInt8 := encOf (preL 3 e f 0 [])
def markB (e k : Nat) : List UInt8 := encOf (preL 4 e k 0 [])
theorem datL_length (e : Nat) : ∀ (f : Nat) (R : List (List UInt8)), (datL e f R).length = R.length
  | _, [] => rfl
  | f, r :: l => by rw [datL, List.length_cons, datL_length e (f + 1) l, List.length_cons]
theorem grpL_length (e f : Nat) (R : List (List UInt8)) : (grpL e f R).length = R.length + 1 := by simp [grpL, datL_length]
theorem datL_take (e : Nat) : ∀ (f : Nat) (R : List (List UInt8)) (k : Nat), (datL e f R).take k = datL e f (R.take k)
  | _, [], k => by simp [datL]
  | f, r :: l, 0 => rfl
  | f, r :: l, k + 1 => by rw [datL, List.take_succ_cons, List.take_succ_cons, datL, datL_take e (f + 1) l k]
theorem datL_append (e : Nat) : ∀ (f : Nat) (R T : List (List UInt8)), datL e f (R ++ T) = datL e f R ++ datL e (f + R.length) T
  | _, [], T => rfl
  | f, r :: l, T => by rw [List.cons_append, datL, datL_append e (f + 1) l T, datL, List.cons_append, List.length_cons, show f + 1 + l.length = f + (l.length + 1) by omega]
theorem datL_mem (e : Nat) : ∀ (f : Nat) (R : List (List UInt8)), ∀ p ∈ datL e f R, ∃ k r, r ∈ R ∧ p = datB e (f + k) r ∧ k < R.length
  | _, [], p, hp => by simp [datL] at hp
  | f, r :: l, p, hp => by
    rw [datL] at hp
    rcases List.mem_cons.1 hp with rfl | hp
    · exact ⟨0, r, by simp, rfl, by simp⟩
    · obtain ⟨k, r', h1, h2, h3⟩ := datL_mem e (f + 1) l p hp
      exact ⟨k + 1, r', by simp [h1], by rw [h2, show f + 1 + k = f + (k + 1) by omega], by simp; omega⟩
/-- bounds within which blocks can be written. -/
structure GrpOk (e f : Nat) (R : List (List UInt8)) : Prop where
  e : e ≤ 4294967295
  f : f + R.length ≤ 1000000
  r : ∀ r ∈ R, r.length ≤ 40
theorem encB_good {k e s l : Nat} {bs : List UInt8} (hk : 1 ≤ k ∧ k ≤ 4) (he : e ≤ 4294967295) (hs : s ≤ 1099511627776) (hl : l ≤ 1048576) (hb : bs.length ≤ 40) :
    goodB (encOf (preL k e s l bs)) ∧ dK (encOf (preL k e s l bs)) = k ∧ dE (encOf (preL k e s l bs)) = e ∧ dS (encOf (preL k e s l bs)) = s ∧ dL (encOf (preL k e s l bs)) = l ∧ dB (encOf (preL k e s l bs)) = bs := by
  obtain ⟨g, gk, ge, gs, gl, gb⟩ := encL_good (k := k) (e := e) (s := s) (l := l) (bs := bs) ⟨by omega, by omega, by omega, by omega⟩ hb
  exact ⟨⟨encOf_length (by rw [preL_length]; omega), g⟩, gk, ge, gs, gl, gb⟩
theorem sumL_length (R : List (List UInt8)) : (sumL R).length = 4 := by simp [sumL, leB_length]
theorem datB_good {e f : Nat} {r : List UInt8} (he : e ≤ 4294967295) (hf : f ≤ 1099511627776) (hr : r.length ≤ 40) : goodB (datB e f r) ∧ dK (datB e f r) = 1 ∧ dE (datB e f r) = e ∧ dS (datB e f r) = f ∧ dL (datB e f r) = 0 ∧ dB (datB e f r) = r := encB_good (by omega) he hf (by omega) hr
theorem comB_good {e f : Nat} {R : List (List UInt8)} (g : GrpOk e f R) : goodB (comB e f R) ∧ dK (comB e f R) = 2 ∧ dE (comB e f R) = e ∧ dS (comB e f R) = f ∧ dL (comB e f R) = R.length ∧ dB (comB e f R) = sumL R :=
  encB_good (by omega) g.e (by have := g.f; omega) (by have := g.f; omega) (by rw [sumL_length]; omega)
theorem headB_good {e f : Nat} (he : e ≤ 4294967295) (hf : f ≤ 1099511627776) : goodB (headB e f) ∧ dK (headB e f) = 3 ∧ dE (headB e f) = e ∧ dS (headB e f) = f ∧ dL (headB e f) = 0 ∧ dB (headB e f) = [] := encB_good (by omega) he hf (by omega) (by simp)
theorem markB_good {e k : Nat} (he : e ≤ 4294967295) (hk : k ≤ 1099511627776) : goodB (markB e k) ∧ dK (markB e k) = 4 ∧ dE (markB e k) = e ∧ dS (markB e k) = k ∧ dL (markB e k) = 0 ∧ dB (markB e k) = [] := encB_good (by omega) he hk (by omega) (by simp)
theorem goodB_torn {p : List UInt8} (g : goodB p) : ¬ goodB (tornL p) := fun h => torn_bad g.1 (goodP_sumOk g.2) h.2

/-! ### Reading it -/
theorem stepB_bad {i : Nat} {s : Sc} {p : List UInt8} (h : ¬ goodB p) : stepB i s p = { s with wait := [] } := by unfold stepB; rw [if_pos h]
theorem stepB_data {i : Nat} {s : Sc} {p : List UInt8} (g : goodB p) (he : dE p = s.epoch) (hk : dK p = 1) : stepB i s p = { s with wait := s.wait ++ [p] } := by
  unfold stepB; rw [if_neg (fun h => h g), if_neg (by omega), if_neg (by omega), if_pos hk]
theorem scan_dat {e : Nat} (he : e ≤ 4294967295) : ∀ (R : List (List UInt8)) (f i : Nat) (s : Sc), f + R.length ≤ 1000000 → (∀ r ∈ R, r.length ≤ 40) → s.epoch = e → scanGo (datL e f R) i s = { s with wait := s.wait ++ datL e f R }
  | [], f, i, s, _, _, _ => by simp [datL, scanGo]
  | r :: l, f, i, s, hf, hr, hs => by
    simp only [List.length_cons] at hf
    obtain ⟨g, gk, ge, _⟩ := datB_good he (f := f) (by omega) (hr r (by simp))
    rw [datL, scanGo, stepB_data g (by rw [ge, hs]) gk]
    refine (scan_dat he l (f + 1) (i + 1) _ (by omega) (fun x hx => hr x (by simp [hx])) ?_).trans ?_
    · exact hs
    · simp
theorem datL_dS {e : Nat} (he : e ≤ 4294967295) : ∀ (R : List (List UInt8)) (f : Nat), f + R.length ≤ 1000000 → (∀ r ∈ R, r.length ≤ 40) → (datL e f R).map dS = List.range' f R.length ∧ (datL e f R).map dB = R
  | [], f, _, _ => ⟨rfl, rfl⟩
  | r :: l, f, hf, hr => by
    simp only [List.length_cons] at hf
    obtain ⟨_, _, _, gs, _, gb⟩ := datB_good he (f := f) (by omega) (hr r (by simp))
    obtain ⟨h1, h2⟩ := datL_dS he l (f + 1) (by omega) (fun x hx => hr x (by simp [hx]))
    rw [datL, List.map_cons, List.map_cons, gs, gb, h1, h2, List.length_cons, List.range'_succ]
    exact ⟨rfl, rfl⟩
theorem step_com {e f : Nat} {R : List (List UInt8)} (g : GrpOk e f R) {i : Nat} {s : Sc} {W : List (List UInt8)} (he : s.epoch = e) (hf : f = s.first + s.recs.length) (hw : s.wait = W ++ datL e f R) :
    stepB i s (comB e f R) = { s with valid := true, recs := s.recs ++ R, wait := [] } := by
  obtain ⟨gg, gk, ge, gs, gl, gb⟩ := comB_good g
  obtain ⟨h1, h2⟩ := datL_dS g.e R f g.f g.r
  have hlen : s.wait.length = W.length + R.length := by rw [hw, List.length_append, datL_length]
  have hdrop : s.wait.drop (s.wait.length - R.length) = datL e f R := by
    rw [hlen, hw, show W.length + R.length - R.length = W.length by omega, List.drop_left]
  unfold stepB
  rw [if_neg (fun h => h gg), if_neg (by omega), if_neg (by omega), if_neg (by omega), if_pos gk]
  unfold commitS
  rw [gl, if_neg (by omega), hdrop, h1, h2, if_neg (by rw [hf]; simp), gb, if_neg (by simp)]
/-- a whole group. -/
theorem scan_grp {e f : Nat} {R : List (List UInt8)} (g : GrpOk e f R) (i : Nat) {s : Sc} (he : s.epoch = e) (hf : f = s.first + s.recs.length) :
    scanGo (grpL e f R) i s = { s with valid := true, recs := s.recs ++ R, wait := [] } := by
  unfold grpL
  rw [scanGo_append, scan_dat g.e R f i s g.f g.r he, scanGo]
  rw [step_com (s := { s with wait := s.wait ++ datL e f R }) g (W := s.wait) he hf rfl]
  rfl
/-- blocks of a group, too few of them to be counted, change nothing. -/
theorem scan_few {e f : Nat} {R : List (List UInt8)} (g : GrpOk e f R) : ∀ (l : List (List UInt8)) (i : Nat) (s : Sc), s.epoch = e → (∀ p ∈ l, p ∈ grpL e f R ∨ ¬ goodB p) → s.wait.length + l.length ≤ R.length → (scanGo l i s).core = s.core
  | [], i, s, _, _, _ => rfl
  | p :: l, i, s, he, hm, hl => by
    simp only [List.length_cons] at hl
    rw [scanGo]
    have hm' : ∀ q ∈ l, q ∈ grpL e f R ∨ ¬ goodB q := fun q hq => hm q (by simp [hq])
    rcases hm p (by simp) with h | h
    · unfold grpL at h
      rcases List.mem_append.1 h with h | h
      · obtain ⟨k, r, hr, rfl, hk⟩ := datL_mem e f R p h
        obtain ⟨gg, gk, ge, _⟩ := datB_good g.e (f := f + k) (by have := g.f; omega) (g.r r hr)
        rw [stepB_data gg (by rw [ge, he]) gk]
        exact scan_few g l (i + 1) _ he hm' (by simp; omega)
      · simp only [List.mem_cons, List.not_mem_nil, or_false] at h
        subst h
        obtain ⟨gg, gk, ge, gs, gl, gb⟩ := comB_good g
        have : stepB i s (comB e f R) = { s with wait := [] } := by
          unfold stepB
          rw [if_neg (fun h => h gg), if_neg (by omega), if_neg (by omega), if_neg (by omega), if_pos gk]
          unfold commitS
          rw [gl, if_pos (by omega)]
        rw [this]
        exact scan_few g l (i + 1) { s with wait := [] } he hm' (by simp; omega)
    · rw [stepB_bad h]
      exact scan_few g l (i + 1) { s with wait := [] } he hm' (by simp; omega)
/-- what may be left of blocks that were written one behind the other. -/
structure Left (G l : List (List UInt8)) : Prop where
  left : ∃ q r, l = G.take q ++ r ∧ q + r.length ≤ G.length ∧ q < G.length ∧ (r = [] ∨ ∃ hq : q < G.length, ∃ s, r = tornL G[q] :: s) ∧ ∀ p ∈ r, p ∈ G ∨ ∃ p' ∈ G, p = tornL p'
theorem grp_good {e f : Nat} {R : List (List UInt8)} (g : GrpOk e f R) : ∀ p ∈ grpL e f R, goodB p ∧ dE p = e ∧ (dK p = 1 ∨ dK p = 2) := by
  intro p hp
  unfold grpL at hp
  rcases List.mem_append.1 hp with h | h
  · obtain ⟨k, r, hr, rfl, hk⟩ := datL_mem e f R p h
    obtain ⟨gg, gk, ge, _⟩ := datB_good g.e (f := f + k) (by have := g.f; omega) (g.r r hr)
    exact ⟨gg, ge, .inl gk⟩
  · simp only [List.mem_cons, List.not_mem_nil, or_false] at h
    subst h
    obtain ⟨gg, gk, ge, _⟩ := comB_good g
    exact ⟨gg, ge, .inr gk⟩
/-- what is left of a group changes nothing. -/
theorem scan_left {e f : Nat} {R : List (List UInt8)} (g : GrpOk e f R) {l : List (List UInt8)} (x : Left (grpL e f R) l) (i : Nat) {s : Sc} (he : s.epoch = e) : (scanGo l i s).core = s.core := by
  obtain ⟨q, r, rfl, hlen, hq, hr, hm⟩ := x.left
  have hgl := grpL_length e f R
  rw [hgl] at hlen hq
  have htk : (grpL e f R).take q = datL e f (R.take q) := by
    unfold grpL
    rw [List.take_append_of_le_length (by rw [datL_length]; omega), datL_take]
  rw [scanGo_append, htk, scan_dat g.e (R.take q) f i s (by have := g.f; rw [List.length_take]; omega) (fun x hx => g.r x (List.mem_of_mem_take hx)) he]
  rcases hr with rfl | ⟨hq', t, rfl⟩
  · rfl
  · have hb : ¬ goodB (tornL (grpL e f R)[q]) := goodB_torn (grp_good g _ (List.getElem_mem _)).1
    rw [scanGo, stepB_bad hb]
    refine scan_few g t _ { s with wait := [] } he (fun p hp => ?_) (by simp only [List.length_cons, List.length_nil] at hlen ⊢; omega)
    · rcases hm p (by simp [hp]) with h | ⟨p', h, rfl⟩
      · exact .inl h
      · exact .inr (goodB_torn (grp_good g p' h).1)
/-- a mark. -/
theorem scan_mark {e k : Nat} (he : e ≤ 4294967295) (hk : k ≤ 1099511627776) (i : Nat) {s : Sc} (hs : s.epoch = e) (h1 : s.first ≤ k) (h2 : k ≤ s.first + s.recs.length) :
    scanGo [markB e k] i s = { s with recs := s.recs.drop (k - s.first), first := k, wait := [] } := by
  obtain ⟨gg, gk, ge, gs, gl, gb⟩ := markB_good he hk
  rw [scanGo, scanGo]
  unfold stepB
  rw [if_neg (fun h => h gg), if_neg (by omega), if_neg (by omega), if_neg (by omega), if_neg (by omega), if_pos gk]
  unfold markS
  rw [gs, if_pos ⟨h1, h2⟩]
theorem scan_mark_left {e k : Nat} (he : e ≤ 4294967295) (hk : k ≤ 1099511627776) {l : List (List UInt8)} (x : Left [markB e k] l) (i : Nat) (s : Sc) : (scanGo l i s).core = s.core := by
  obtain ⟨q, r, rfl, hlen, hq, hr, hm⟩ := x.left
  simp only [List.length_cons, List.length_nil] at hq hlen
  obtain rfl : q = 0 := by omega
  rw [List.take_zero, List.nil_append]
  rcases hr with rfl | ⟨hq', t, rfl⟩
  · rfl
  · simp only [List.length_cons] at hlen
    have : t = [] := List.eq_nil_of_length_eq_zero (by omega)
    subst this
    have hb : ¬ goodB (tornL [markB e k][0]) := goodB_torn (markB_good he hk).1
    rw [scanGo, stepB_bad hb]
    rfl
/-- a generation's beginning. -/
theorem step_head {e f : Nat} (he : e ≤ 4294967295) (hf : f ≤ 1099511627776) : stepB 0 sc0 (headB e f) = ⟨true, false, e, f, [], []⟩ := by
  obtain ⟨gg, gk, ge, gs, gl, gb⟩ := headB_good he hf
  unfold stepB
  rw [if_neg (fun h => h gg), if_pos ⟨rfl, gk⟩, ge, gs]
  rfl
def genL (e f : Nat) (R : List (List UInt8)) : List (List UInt8) := headB e f :: grpL e f R
theorem genL_length (e f : Nat) (R : List (List UInt8)) : (genL e f R).length = R.length + 2 := by simp [genL, grpL_length]
theorem scan_gen {e f : Nat} {R : List (List UInt8)} (g : GrpOk e f R) : scanL (genL e f R) = ⟨true, true, e, f, R, []⟩ := by
  unfold scanL genL
  rw [scanGo, step_head g.e (by have := g.f; omega), scan_grp (s := ⟨true, false, e, f, [], []⟩) g (0 + 1) rfl (by simp)]
  simp
theorem gen_good {e f : Nat} {R : List (List UInt8)} (g : GrpOk e f R) : ∀ p ∈ genL e f R, goodB p ∧ dE p = e ∧ (dK p = 1 ∨ dK p = 2 ∨ dK p = 3) := by
  intro p hp
  rcases List.mem_cons.1 hp with rfl | hp
  · obtain ⟨gg, gk, ge, _⟩ := headB_good g.e (f := f) (by have := g.f; omega)
    exact ⟨gg, ge, .inr (.inr gk)⟩
  · obtain ⟨h1, h2, h3⟩ := grp_good g p hp
    exact ⟨h1, h2, by omega⟩
/-- blocks of another generation. -/
theorem scan_old {e : Nat} : ∀ (l : List (List UInt8)) (i : Nat) (s : Sc), s.epoch ≠ e → 0 < i → (∀ p ∈ l, goodB p → dE p = e) → (scanGo l i s).core = s.core
  | [], i, s, _, _, _ => rfl
  | p :: l, i, s, he, hi, hm => by
    rw [scanGo]
    have : stepB i s p = { s with wait := [] } := by
      by_cases h : goodB p
      · unfold stepB; rw [if_neg (fun hh => hh h), if_neg (by omega), if_pos (by rw [hm p (by simp) h]; exact Ne.symm he)]
      · exact stepB_bad h
    rw [this]
    exact scan_old l (i + 1) { s with wait := [] } he (by omega) (fun q hq => hm q (by simp [hq]))
/-- what is left of a generation does not count. -/
theorem scan_gen_left {e f : Nat} {R : List (List UInt8)} (g : GrpOk e f R) (h1 : 1 ≤ e) {l : List (List UInt8)} (x : Left (genL e f R) l) : (scanL l).core = sc0.core ∨ (scanL l).valid = false := by
  obtain ⟨q, r, rfl, hlen, hq, hr, hm⟩ := x.left
  rw [genL_length] at hlen hq
  have hmem : ∀ p ∈ r, goodB p → dE p = e := fun p hp hg => by
    rcases hm p hp with h | ⟨p', h, rfl⟩
    · exact (gen_good g p h).2.1
    · exact absurd hg (goodB_torn (gen_good g p' h).1)
  rcases Nat.eq_zero_or_pos q with h0 | h0
  · subst h0
    left
    rw [List.take_zero, List.nil_append]
    rcases hr with rfl | ⟨hq', t, rfl⟩
    · rfl
    · have hb : ¬ goodB (tornL (genL e f R)[0]) := goodB_torn (gen_good g _ (List.getElem_mem _)).1
      unfold scanL
      rw [scanGo, stepB_bad hb]
      exact scan_old t _ sc0 (e := e) (by show (0 : Nat) ≠ e; omega) (by omega) (fun p hp => hmem p (by simp [hp]))
  · right
    obtain ⟨k, rfl⟩ : ∃ k, q = k + 1 := ⟨q - 1, by omega⟩
    have htk : (genL e f R).take (k + 1) = headB e f :: (grpL e f R).take k := rfl
    have hc : (scanGo ((grpL e f R).take k ++ r) 1 ⟨true, false, e, f, [], []⟩).core = (true, false, e, f, []) := by
      -- behind a whole head
      have hgl := grpL_length e f R
      have hk' : (grpL e f R).take k = datL e f (R.take k) := by
        unfold grpL
        rw [List.take_append_of_le_length (by rw [datL_length]; omega), datL_take]
      rw [scanGo_append, hk', scan_dat g.e (R.take k) f 1 _ (by have := g.f; rw [List.length_take]; omega) (fun x hx => g.r x (List.mem_of_mem_take hx)) rfl]
      rcases hr with rfl | ⟨hq', t, rfl⟩
      · rfl
      · have hb : ¬ goodB (tornL (genL e f R)[k + 1]) := goodB_torn (gen_good g _ (List.getElem_mem _)).1
        rw [scanGo, stepB_bad hb]
        have few : ∀ (l : List (List UInt8)) (i : Nat) (s : Sc), 0 < i → s.epoch = e → (∀ p ∈ l, p ∈ genL e f R ∨ ¬ goodB p) → s.wait.length + l.length ≤ R.length → (scanGo l i s).core = s.core := by
          intro l
          induction l with
          | nil => intro i s _ _ _ _; rfl
          | cons p l ih =>
            intro i s hi he hm hl
            have hm' : ∀ q ∈ l, q ∈ genL e f R ∨ ¬ goodB q := fun q hq => hm q (by simp [hq])
            simp only [List.length_cons] at hl
            have one : (stepB i s p).core = s.core ∧ (stepB i s p).wait.length ≤ s.wait.length + 1 := by
              have key : p ∈ grpL e f R ∨ ¬ goodB p → (stepB i s p).core = s.core := fun h => by
                have := scan_few g [p] i s he (fun q hq => by simp only [List.mem_cons, List.not_mem_nil, or_false] at hq; subst hq; exact h) (by simp only [List.length_cons, List.length_nil]; omega)
                simpa [scanGo] using this
              have wl : (stepB i s p).wait.length ≤ s.wait.length + 1 := by
                unfold stepB commitS markS
                repeat' split
                all_goals simp
              refine ⟨?_, wl⟩
              rcases hm p (by simp) with h | h
              · rcases List.mem_cons.1 h with rfl | h
                · obtain ⟨gg, gk, ge, _⟩ := headB_good g.e (f := f) (by have := g.f; omega)
                  unfold stepB
                  rw [if_neg (fun hh => hh gg), if_neg (by omega), if_neg (by rw [ge, he]; simp), if_neg (by omega), if_neg (by omega), if_neg (by omega)]
                · exact key (.inl h)
              · exact key (.inr h)
            have hep : (stepB i s p).epoch = e := by
              have := congrArg (fun c => c.2.2.1) one.1
              exact this.trans he
            rw [scanGo, ih (i + 1) (stepB i s p) (by omega) hep hm' (by omega), one.1]
        refine few t _ ⟨true, false, e, f, [], []⟩ (by omega) rfl (fun p hp => ?_) (by simp only [List.length_cons, List.length_nil] at hlen ⊢; omega)
        · rcases hm p (by simp [hp]) with h | ⟨p', h, rfl⟩
          · exact .inl h
          · exact .inr (goodB_torn (gen_good g p' h).1)
    unfold scanL
    rw [htk, List.cons_append, scanGo, step_head g.e (by have := g.f; omega)]
    exact congrArg (fun c => c.2.1) hc
/-- there are no more records than blocks; and a Commit. -/
def flg : List (List UInt8) → Nat
  | [] => 0
  | _ :: _ => 1
theorem flg_le (r : List (List UInt8)) : flg r ≤ 1 := by cases r <;> simp [flg]
theorem flg_drop (r : List (List UInt8)) (k : Nat) : (r.drop k).length + flg (r.drop k) ≤ r.length + flg r := by
  cases k with
  | zero => simp
  | succ k =>
    cases r with
    | nil => simp
    | cons x r => have := flg_le ((x :: r).drop (k + 1)); simp only [List.drop_succ_cons, List.length_drop, List.length_cons, flg] at *; omega
theorem step_count (i : Nat) (s : Sc) (p : List UInt8) : (stepB i s p).recs.length + (stepB i s p).wait.length + flg (stepB i s p).recs ≤ s.recs.length + s.wait.length + flg s.recs + 1 := by
  unfold stepB
  split
  · show s.recs.length + 0 + flg s.recs ≤ _; omega
  split
  · show s.recs.length + s.wait.length + flg s.recs ≤ _; omega
  split
  · show s.recs.length + 0 + flg s.recs ≤ _; omega
  split
  · show s.recs.length + (s.wait ++ [p]).length + flg s.recs ≤ _; rw [List.length_append]; simp only [List.length_cons, List.length_nil]; omega
  split
  · unfold commitS
    split
    · show s.recs.length + 0 + flg s.recs ≤ _; omega
    split
    · show s.recs.length + 0 + flg s.recs ≤ _; omega
    split
    · show s.recs.length + 0 + flg s.recs ≤ _; omega
    · have h1 := flg_le (s.recs ++ (s.wait.drop (s.wait.length - dL p)).map dB)
      show (s.recs ++ (s.wait.drop (s.wait.length - dL p)).map dB).length + 0 + flg (s.recs ++ (s.wait.drop (s.wait.length - dL p)).map dB) ≤ _
      rw [List.length_append, List.length_map, List.length_drop]
      omega
  split
  · unfold markS
    split
    · have := flg_drop s.recs (dS p - s.first)
      show (s.recs.drop (dS p - s.first)).length + 0 + flg (s.recs.drop (dS p - s.first)) ≤ _; omega
    · show s.recs.length + 0 + flg s.recs ≤ _; omega
  · omega
theorem scan_count : ∀ (l : List (List UInt8)) (i : Nat) (s : Sc), (scanGo l i s).recs.length + (scanGo l i s).wait.length + flg (scanGo l i s).recs ≤ s.recs.length + s.wait.length + flg s.recs + l.length
  | [], i, s => by simp [scanGo]
  | p :: l, i, s => by
    have h1 := step_count i s p
    have h2 := scan_count l (i + 1) (stepB i s p)
    rw [scanGo, List.length_cons]; omega
theorem scanL_count (B : List (List UInt8)) : (scanL B).recs.length + flg (scanL B).recs ≤ B.length := by
  have := scan_count B 0 sc0
  have h0 : sc0.recs.length + sc0.wait.length + flg sc0.recs = 0 := rfl
  unfold scanL
  omega

end Go.Proofs.Ytippdkokbhejmaa
