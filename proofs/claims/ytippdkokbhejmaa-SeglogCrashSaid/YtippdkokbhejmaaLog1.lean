/-
  seglog: what its ops make of a device, and what a crash leaves of them (plain law).
-/
import Derived.Test.YtippdkokbhejmaaLog0
namespace Go.Proofs.Ytippdkokbhejmaa
set_option linter.unusedVariables false
set_option linter.unusedSimpArgs false

noncomputable def Dv.wrt (d : Dv) (base size pos : Nat) (bl : List (List UInt8)) : Int × Dv :=
  if (d.puts base size pos bl).1 ≠ 0 then d.puts base size pos bl else (d.puts base size pos bl).2.flush
theorem drop_take_mem {α : Type} {l : List α} {p : α} {a b : Nat} (h : p ∈ (l.take a).drop b) : p ∈ l.drop b := by
  rw [List.drop_take] at h
  exact List.mem_of_mem_take h
/-- blocks are written behind others, till the power goes; and what a crash makes of it then. -/
theorem wrt_any {d : Dv} (w : d.Wf) (g : AllGood d) {base cnt : Nat} {B bl : List (List UInt8)} (hn : base + cnt ≤ d.n) (hl : B.length + bl.length ≤ cnt * d.size) (h64 : ∀ p ∈ B ++ bl, p.length = 64) (hz : ∀ m, m < cnt → (d.z (base + m)).rows = part d.size B m) :
    NxD d (d.wrt base d.size B.length bl).2 ∧ (∀ j, (j < base ∨ base + cnt ≤ j) → ((d.wrt base d.size B.length bl).2.z j).rows = (d.z j).rows) ∧
    (((d.wrt base d.size B.length bl).1 = 0 ∧ AllGood (d.wrt base d.size B.length bl).2 ∧ ∀ m, m < cnt → ((d.wrt base d.size B.length bl).2.z (base + m)).rows = part d.size (B ++ bl) m) ∨
     ((d.wrt base d.size B.length bl).1 = 12 ∧ ∀ picks torn, (∀ j, (j < base ∨ base + cnt ≤ j) → (((d.wrt base d.size B.length bl).2.crash picks torn).z j).rows = (d.z j).rows) ∧
       ∃ l, (Left bl l ∨ l = bl) ∧ zRows ((d.wrt base d.size B.length bl).2.crash picks torn) base cnt = B ++ l)) := by
  have hs := w.size
  have hpl : (B ++ bl).length = B.length + bl.length := List.length_append
  obtain ⟨p1, q, hq0, hq, p2, p3, p4⟩ := puts_any (base := base) (cnt := cnt) (ps := B ++ bl) h64 bl d B.length w hn (by rw [hpl]; exact hl) (by rw [List.drop_left]) (by rw [hpl]; omega) (fun m hm => by rw [List.take_left]; exact hz m hm)
  unfold Dv.wrt
  generalize d.puts base d.size B.length bl = P at *
  obtain ⟨e2, d2⟩ := P
  simp only at p1 p2 p3 p4
  have pn : d2.n = d.n := p1.n
  have pz : d2.size = d.size := p1.size
  -- a crash of it
  have cr : ∀ picks torn, (∀ j, (j < base ∨ base + cnt ≤ j) → ((d2.crash picks torn).z j).rows = (d.z j).rows) ∧ ∃ l, (Left bl l ∨ l = bl) ∧ zRows (d2.crash picks torn) base cnt = B ++ l := by
    intro picks torn
    refine ⟨fun j hj => by rw [crash_keep p1.wf picks torn (by rw [p4 j hj]; exact g j), p4 j hj], ?_⟩
    have hql : ((B ++ bl).take q).length = q := by rw [List.length_take]; omega
    obtain ⟨q', r, h1, h2, h3, h4, h5⟩ := crash_part p1.wf (ps := (B ++ bl).take q) (cnt := cnt) (base := base) (g := B.length) (by rw [pn]; exact hn) (by rw [hql, pz]; omega) (by rw [hql]; exact hq0) (fun m hm => by
      rw [pz]
      refine ⟨(p3 m hm).1, ?_⟩
      rw [(p3 m hm).2, g, hz m hm, List.take_take, Nat.min_eq_left hq0, List.take_left]
      exact Nat.le_refl _) picks torn
    rw [hql] at h3
    have htk : ((B ++ bl).take q).take q' = B ++ bl.take (q' - B.length) := by
      rw [List.take_take, Nat.min_eq_left (by omega), List.take_append, List.take_of_length_le (l := B) h2]
    rw [h1, htk, List.append_assoc]
    refine ⟨_, ?_, rfl⟩
    by_cases hfull : q' - B.length = bl.length
    · right
      have : r = [] := List.eq_nil_of_length_eq_zero (by omega)
      rw [this, hfull, List.take_length, List.append_nil]
    · left
      refine ⟨q' - B.length, r, rfl, by omega, by omega, ?_, fun p hp => ?_⟩
      · rcases h4 with h | ⟨hq', s, h⟩
        · exact .inl h
        · refine .inr ⟨by omega, s, ?_⟩
          rw [h, List.getElem_take, List.getElem_append_right h2]
      · have hd : ∀ x, x ∈ ((B ++ bl).take q).drop q' → x ∈ bl := fun x hx => by
          have := drop_take_mem hx
          rw [List.drop_append, List.drop_eq_nil_of_le h2, List.nil_append] at this
          exact List.mem_of_mem_drop this
        rcases h5 p hp with h | ⟨p', h, e⟩
        · exact .inl (hd _ h)
        · exact .inr ⟨p', hd _ h, e⟩
  rcases p2 with ⟨rfl, rfl⟩ | rfl
  · rw [if_neg (by simp)]
    rw [List.take_length] at p3
    rcases flush_any d2 with e | e
    · rw [e]
      exact ⟨NxD.trans p1 (NxD.tick p1.wf), fun j hj => by show (d2.z j).rows = _; rw [p4 j hj], .inr ⟨rfl, cr⟩⟩
    · rw [e]
      refine ⟨NxD.trans p1 ⟨p1.wf.tick.flushed, rfl, rfl⟩, fun j hj => ?_, .inl ⟨rfl, fun j => by rw [Dv.flushed_z], fun m hm => ?_⟩⟩
      · rw [Dv.flushed_z]; show (d2.z j).rows = _; rw [p4 j hj]
      · rw [Dv.flushed_z]; exact (p3 m hm).1
  · rw [if_pos (by simp)]
    exact ⟨p1, fun j hj => by rw [p4 j hj], .inr ⟨rfl, cr⟩⟩

/-! ### Zones, one behind the other -/
theorem zRows_le {d : Dv} (w : d.Wf) : ∀ (k z : Nat), (zRows d z k).length ≤ k * d.size
  | 0, z => by simp [zRows]
  | k + 1, z => by
    have h1 := (w.zone z).rows
    have h2 := zRows_le w k (z + 1)
    rw [Nat.add_mul, Nat.one_mul, zRows, List.length_append]
    split
    · simp only [List.length_nil]; omega
    · omega
theorem zRows_64 {d : Dv} (w : d.Wf) : ∀ (k z : Nat), ∀ p ∈ zRows d z k, p.length = 64
  | 0, z, p, hp => by simp [zRows] at hp
  | k + 1, z, p, hp => by
    rw [zRows] at hp
    rcases List.mem_append.1 hp with hp | hp
    · exact (w.zone z).each p hp
    · split at hp
      · simp at hp
      · exact zRows_64 w k (z + 1) p hp
/-- what is read of a zone is what stands there. -/
theorem zRows_at {d : Dv} (w : d.Wf) : ∀ (k z m : Nat), m < k → m * d.size < (zRows d z k).length → (d.z (z + m)).rows = part d.size (zRows d z k) m
  | 0, z, m, hm, _ => by omega
  | k + 1, z, m, hm, hl => by
    have h1 := (w.zone z).rows
    have hs := w.size
    rw [zRows] at hl ⊢
    unfold part
    by_cases hf : (d.z z).rows.length < d.size
    · rw [if_pos hf, List.append_nil] at hl ⊢
      have hm0 : m = 0 := by
        rcases Nat.eq_zero_or_pos m with h | h
        · exact h
        · have : 1 * d.size ≤ m * d.size := Nat.mul_le_mul_right _ h
          omega
      subst hm0
      rw [Nat.zero_mul, List.drop_zero, List.take_of_length_le h1]; rfl
    · rw [if_neg hf] at hl ⊢
      have hlen : (d.z z).rows.length = d.size := by omega
      cases m with
      | zero => rw [Nat.zero_mul, List.drop_zero, ← hlen, List.take_left]; rfl
      | succ m =>
        rw [Nat.add_mul, Nat.one_mul, List.length_append] at hl
        have := zRows_at w k (z + 1) m (by omega) (by omega)
        rw [show z + (m + 1) = z + 1 + m by omega, this, Nat.add_mul, Nat.one_mul]
        unfold part
        rw [Nat.add_comm (m * d.size), ← List.drop_drop, show d.size = (d.z z).rows.length from hlen.symm, List.drop_left]
/-- zones behind what is read may have been emptied. -/
theorem zRows_mend {d d' : Dv} (w : d.Wf) (hs : d'.size = d.size) : ∀ (k z : Nat), (∀ m, m < k → m * d.size < (zRows d z k).length → (d'.z (z + m)).rows = (d.z (z + m)).rows) → (∀ m, m < k → (d'.z (z + m)).rows = (d.z (z + m)).rows ∨ (d'.z (z + m)).rows = []) → zRows d' z k = zRows d z k
  | 0, z, _, _ => rfl
  | k + 1, z, h1, h2 => by
    have hsz := w.size
    have hz : (d'.z z).rows = (d.z z).rows := by
      rcases h2 0 (by omega) with h | h
      · exact h
      · by_cases he : (d.z z).rows = []
        · rw [he]; exact h
        · refine h1 0 (by omega) ?_
          have := List.length_pos_iff.2 he
          rw [zRows, List.length_append]; omega
    rw [zRows, zRows, hz, hs]
    by_cases hf : (d.z z).rows.length < d.size
    · rw [if_pos hf, if_pos hf]
    · rw [if_neg hf, if_neg hf]
      congr 1
      refine zRows_mend w hs k (z + 1) (fun m hm hl => ?_) (fun m hm => ?_)
      · have := h1 (m + 1) (by omega) (by
          rw [zRows, if_neg hf, List.length_append, Nat.add_mul, Nat.one_mul]; omega)
        rwa [show z + (m + 1) = z + 1 + m by omega] at this
      · have := h2 (m + 1) (by omega)
        rwa [show z + (m + 1) = z + 1 + m by omega] at this
theorem part_nil {size m : Nat} {B : List (List UInt8)} (h : B.length ≤ m * size) : part size B m = [] := by
  unfold part; rw [List.drop_eq_nil_of_le h, List.take_nil]

/-! ### A log -/
structure LgV where
  low : Nat
  count : Nat
  size : Nat
  half : Nat
  epoch : Nat
  pos : Nat
  first : Nat
  recs : List (List UInt8)
  off : Bool
def LgV.base (S : LgV) (h : Nat) : Nat := S.low + h * S.count
theorem LgV.base0 (S : LgV) : S.base 0 = S.low := by simp [LgV.base]
theorem LgV.base1 (S : LgV) : S.base 1 = S.low + S.count := by simp [LgV.base]
def okK (p : List UInt8) : Prop := 1 ≤ dK p ∧ dK p ≤ 4
/-- the half that has the log. -/
def LgV.B (S : LgV) (d : Dv) : List (List UInt8) := zRows d (S.base S.half) S.count
/-- the other one. -/
def LgV.X (S : LgV) (d : Dv) : List (List UInt8) := zRows d (S.base (1 - S.half)) S.count
structure LgPre (d : Dv) (S : LgV) : Prop where
  wf : d.Wf
  n : S.low + 2 * S.count ≤ d.n
  cnt : 1 ≤ S.count
  size : S.size = d.size
  half : S.half ≤ 1
  good : AllGood d
  kc : ∀ p ∈ S.B d, okK p
  ko : ∀ p ∈ S.X d, okK p
  scan : ∃ hd, (scanL (S.B d)).core = (hd, true, S.epoch, S.first, S.recs) ∧ (hd = true ∨ S.half = 0)
  oth : (scanL (S.X d)).valid = true → ((scanL (S.X d)).headed = true ∨ S.half = 1) → (scanL (S.X d)).epoch < S.epoch
  ep : S.half = 1 → 1 ≤ S.epoch
structure LgInv (d : Dv) (S : LgV) : Prop where
  pre : LgPre d S
  pos : S.pos = (S.B d).length
  rows : ∀ m, m < S.count → (d.z (S.base S.half + m)).rows = part S.size (S.B d) m
/-- the same log, of other records. -/
structure LgTo (S S2 : LgV) (f : Nat) (R : List (List UInt8)) : Prop where
  low : S2.low = S.low
  count : S2.count = S.count
  size : S2.size = S.size
  first : S2.first = f
  recs : S2.recs = R
  epoch : S2.epoch ≤ S.epoch + 1
theorem LgV.same {S S2 : LgV} {d d' : Dv} (h1 : S2.low = S.low) (h2 : S2.count = S.count) (h3 : S2.half = S.half) (hz : d'.size = d.size) (hr : ∀ j, S.low ≤ j → j < S.low + 2 * S.count → (d'.z j).rows = (d.z j).rows) (hh : S.half ≤ 1) : S2.B d' = S.B d ∧ S2.X d' = S.X d := by
  unfold LgV.B LgV.X LgV.base
  rw [h1, h2, h3]
  constructor
  · refine zRows_congr hz _ _ fun j h1 h2 => hr j ?_ ?_
    · have := Nat.zero_le (S.half * S.count); omega
    · have : S.half * S.count ≤ 1 * S.count := Nat.mul_le_mul_right _ hh
      omega
  · refine zRows_congr hz _ _ fun j h1 h2 => hr j ?_ ?_
    · have := Nat.zero_le ((1 - S.half) * S.count); omega
    · have : (1 - S.half) * S.count ≤ 1 * S.count := Nat.mul_le_mul_right _ (by omega)
      omega
/-- another device that holds the same. -/
theorem LgPre.same {S S2 : LgV} {d d' : Dv} (v : LgPre d S) (w : d'.Wf) (h1 : S2.low = S.low) (h2 : S2.count = S.count) (h3 : S2.half = S.half) (h4 : S2.size = S.size) (h5 : S2.epoch = S.epoch) (h6 : S2.first = S.first) (h7 : S2.recs = S.recs) (hz : d'.size = d.size) (hn : d'.n = d.n) (g : AllGood d') (hr : ∀ j, S.low ≤ j → j < S.low + 2 * S.count → (d'.z j).rows = (d.z j).rows) : LgPre d' S2 := by
  obtain ⟨hB, hX⟩ := LgV.same h1 h2 h3 hz hr v.half
  exact ⟨w, by rw [h1, h2, hn]; exact v.n, by rw [h2]; exact v.cnt, by rw [h4, hz]; exact v.size, by rw [h3]; exact v.half, g, by rw [hB]; exact v.kc, by rw [hX]; exact v.ko, by rw [hB, h3, h5, h6, h7]; exact v.scan, by rw [hX, h3, h5]; exact v.oth, by rw [h3, h5]; exact v.ep⟩
theorem LgInv.same {S S2 : LgV} {d d' : Dv} (v : LgInv d S) (w : d'.Wf) (h1 : S2.low = S.low) (h2 : S2.count = S.count) (h3 : S2.half = S.half) (h4 : S2.size = S.size) (h5 : S2.epoch = S.epoch) (h6 : S2.first = S.first) (h7 : S2.recs = S.recs) (h8 : S2.pos = S.pos) (hz : d'.size = d.size) (hn : d'.n = d.n) (g : AllGood d') (hr : ∀ j, S.low ≤ j → j < S.low + 2 * S.count → (d'.z j).rows = (d.z j).rows) : LgInv d' S2 := by
  obtain ⟨hB, hX⟩ := LgV.same h1 h2 h3 hz hr v.pre.half
  refine ⟨v.pre.same w h1 h2 h3 h4 h5 h6 h7 hz hn g hr, by rw [h8, hB]; exact v.pos, fun m hm => ?_⟩
  rw [hB, h4]
  have hb : S2.base S2.half = S.base S.half := by unfold LgV.base; rw [h1, h2, h3]
  rw [h2] at hm
  rw [hb, hr _ ?_ ?_]
  · exact v.rows m hm
  · unfold LgV.base; omega
  · have := v.pre.half
    have : S.half * S.count ≤ 1 * S.count := Nat.mul_le_mul_right _ v.pre.half
    unfold LgV.base; omega
/-- an empty log. -/
theorem LgInv.new {n size low count : Nat} (hn : 8 ≤ n ∧ n ≤ 64) (hs : 96 ≤ size ∧ size ≤ 192) (hl : low + 2 * count ≤ n) (hc : 1 ≤ count) : LgInv (Dv.new n size) ⟨low, count, size, 0, 0, 0, 0, [], false⟩ := by
  have e : ∀ z k, zRows (Dv.new n size) z k = [] := fun z k => zRows_nil _ _ fun j _ _ => by rw [Dv.new_z]
  have hB : (⟨low, count, size, 0, 0, 0, 0, [], false⟩ : LgV).B (Dv.new n size) = [] := e _ _
  have hX : (⟨low, count, size, 0, 0, 0, 0, [], false⟩ : LgV).X (Dv.new n size) = [] := e _ _
  refine ⟨⟨Dv.new_wf hn hs, hl, hc, rfl, Nat.zero_le _, fun j => by rw [Dv.new_z]; rfl, by rw [hB]; simp, by rw [hX]; simp, ⟨false, by rw [hB]; rfl, .inr rfl⟩, ?_, fun h => by cases h⟩, by rw [hB]; rfl, fun m hm => ?_⟩
  · rw [hX]
    rintro _ (h | h)
    · cases h
    · cases h
  · rw [hB, Dv.new_z]; simp [part]

/-! ### Writing -/
structure Blk (e f : Nat) (recs : List (List UInt8)) (bl : List (List UInt8)) (f' : Nat) (R' : List (List UInt8)) : Prop where
  good : ∀ p ∈ bl, goodB p ∧ okK p
  whole : ∀ i s, s.epoch = e → s.first = f → s.recs = recs → s.valid = true → (scanGo bl i s).core = (s.headed, true, e, f', R')
  part : ∀ l i s, Left bl l → s.epoch = e → (scanGo l i s).core = s.core
theorem Blk.grp {e f : Nat} {recs R : List (List UInt8)} (g : GrpOk e (f + recs.length) R) : Blk e f recs (grpL e (f + recs.length) R) f (recs ++ R) :=
  ⟨fun p hp => ⟨(grp_good g p hp).1, by have := (grp_good g p hp).2.2; unfold okK; omega⟩, fun i s h1 h2 h3 h4 => by
    rw [scan_grp g i h1 (by rw [h2, h3])]
    simp only [Sc.core, h1, h2, h3], fun l i s x he => scan_left g x i he⟩
theorem Blk.mark {e f k : Nat} {recs : List (List UInt8)} (he : e ≤ 4294967295) (hk : k ≤ 1099511627776) (h1 : f ≤ k) (h2 : k ≤ f + recs.length) : Blk e f recs [markB e k] k (recs.drop (k - f)) :=
  ⟨fun p hp => by
    simp only [List.mem_cons, List.not_mem_nil, or_false] at hp
    subst hp
    obtain ⟨gg, gk, _⟩ := markB_good he hk
    exact ⟨gg, by unfold okK; omega⟩, fun i s g1 g2 g3 g4 => by
    rw [scan_mark he hk i g1 (by omega) (by rw [g2, g3]; exact h2)]
    simp only [Sc.core, g1, g2, g3, g4], fun l i s x he' => scan_mark_left he hk x i s⟩
theorem left_kinds {bl l B : List (List UInt8)} (hb : ∀ p ∈ B, okK p) (hg : ∀ p ∈ bl, goodB p ∧ okK p) (hl : Left bl l ∨ l = bl) : ∀ p ∈ B ++ l, okK p := by
  intro p hp
  rcases List.mem_append.1 hp with hp | hp
  · exact hb p hp
  · rcases hl with ⟨q, r, rfl, _, _, _, hm⟩ | rfl
    · rcases List.mem_append.1 hp with hp | hp
      · exact (hg p (List.mem_of_mem_take hp)).2
      · rcases hm p hp with h | ⟨p', h, rfl⟩
        · exact (hg p h).2
        · have := hg p' h
          unfold okK; rw [torn_dK this.1.1]; exact this.2
    · exact (hg p hp).2
noncomputable def wrV (d : Dv) (S : LgV) (bl : List (List UInt8)) : Int × Dv × LgV :=
  if (d.wrt (S.base S.half) S.size S.pos bl).1 ≠ 0 then ((d.wrt (S.base S.half) S.size S.pos bl).1, (d.wrt (S.base S.half) S.size S.pos bl).2, S) else
  (0, (d.wrt (S.base S.half) S.size S.pos bl).2, { S with pos := S.pos + bl.length })
noncomputable def turnV (d : Dv) (S : LgV) (f : Nat) (R : List (List UInt8)) : Int × Dv × LgV :=
  if S.count * S.size < R.length + 2 then (9, d, S) else
  if (d.clear (S.base (1 - S.half)) S.count).1 ≠ 0 then ((d.clear (S.base (1 - S.half)) S.count).1, (d.clear (S.base (1 - S.half)) S.count).2, S) else
  if ((d.clear (S.base (1 - S.half)) S.count).2.wrt (S.base (1 - S.half)) S.size 0 (genL (S.epoch + 1) f R)).1 ≠ 0 then
    (((d.clear (S.base (1 - S.half)) S.count).2.wrt (S.base (1 - S.half)) S.size 0 (genL (S.epoch + 1) f R)).1, ((d.clear (S.base (1 - S.half)) S.count).2.wrt (S.base (1 - S.half)) S.size 0 (genL (S.epoch + 1) f R)).2, S) else
  (0, ((d.clear (S.base (1 - S.half)) S.count).2.wrt (S.base (1 - S.half)) S.size 0 (genL (S.epoch + 1) f R)).2, { S with half := 1 - S.half, epoch := S.epoch + 1, pos := R.length + 2 })
def finV (f : Nat) (R : List (List UInt8)) (x : Int × Dv × LgV) : Int × Dv × LgV :=
  (x.1, x.2.1, if x.1 = 0 then { x.2.2 with first := f, recs := R } else if x.1 = 9 then x.2.2 else { x.2.2 with off := true })
noncomputable def putV (d : Dv) (S : LgV) (bl : List (List UInt8)) (f : Nat) (R : List (List UInt8)) : Int × Dv × LgV :=
  finV f R (if S.pos + bl.length ≤ S.count * S.size then wrV d S bl else turnV d S f R)
/-- what becomes of a log. -/
structure PutR (d : Dv) (S : LgV) (bl : List (List UInt8)) (f' : Nat) (R' : List (List UInt8)) (x : Int × Dv × LgV) : Prop where
  nx : NxD d x.2.1
  out : ∀ j, (j < S.low ∨ S.low + 2 * S.count ≤ j) → (x.2.1.z j).rows = (d.z j).rows
  res : (x.1 = 0 ∧ LgInv x.2.1 x.2.2 ∧ LgTo S x.2.2 f' R' ∧ x.2.2.off = S.off) ∨
    (x.1 = 9 ∧ x.2.1 = d ∧ x.2.2 = S ∧ S.count * S.size < S.pos + bl.length ∧ S.count * S.size < R'.length + 2) ∨
    (x.1 = 12 ∧ x.2.2 = { S with off := true } ∧ ∀ picks torn, ∃ S2, LgPre (x.2.1.crash picks torn) S2 ∧ (LgTo S S2 S.first S.recs ∨ LgTo S S2 f' R'))
theorem wr_put {d : Dv} {S : LgV} {bl : List (List UInt8)} {f' : Nat} {R' : List (List UInt8)} (v : LgInv d S) (b : Blk S.epoch S.first S.recs bl f' R') (hfit : S.pos + bl.length ≤ S.count * S.size) : PutR d S bl f' R' (finV f' R' (wrV d S bl)) := by
  have w := v.pre.wf
  have hn := v.pre.n
  have hsz := v.pre.size
  have hh := v.pre.half
  have hs := w.size
  have hhc : S.half * S.count ≤ 1 * S.count := Nat.mul_le_mul_right _ hh
  have hbn : S.base S.half + S.count ≤ d.n := by unfold LgV.base; omega
  have h64 : ∀ p ∈ S.B d ++ bl, p.length = 64 := fun p hp => by
    rcases List.mem_append.1 hp with hp | hp
    · exact zRows_64 w _ _ p hp
    · exact (b.good p hp).1.1
  have hpos := v.pos
  obtain ⟨x1, x2, x3⟩ := wrt_any w v.pre.good (base := S.base S.half) (cnt := S.count) (B := S.B d) (bl := bl) hbn (by rw [← hpos, ← hsz]; exact hfit) h64 (fun m hm => by rw [← hsz]; exact v.rows m hm)
  rw [← hpos, ← hsz] at x1 x2 x3
  unfold wrV
  generalize d.wrt (S.base S.half) S.size S.pos bl = W at *
  obtain ⟨e, d1⟩ := W
  simp only at x1 x2 x3
  -- zones of the other half
  have oth : ∀ (d2 : Dv), d2.size = d.size → (∀ j, (j < S.base S.half ∨ S.base S.half + S.count ≤ j) → (d2.z j).rows = (d.z j).rows) → ∀ S2 : LgV, S2.low = S.low → S2.count = S.count → S2.half = S.half → S2.X d2 = S.X d := by
    intro d2 hz hr S2 h1 h2 h3
    unfold LgV.X LgV.base
    rw [h1, h2, h3]
    refine zRows_congr hz _ _ fun j h1 h2 => hr j ?_
    unfold LgV.base
    rcases (show S.half = 0 ∨ S.half = 1 by omega) with e | e
    · rw [e] at h1 h2 ⊢; simp at h1 h2 ⊢; omega
    · rw [e] at h1 h2 ⊢; simp at h1 h2 ⊢; omega
  obtain ⟨hd, hsc, hor⟩ := v.pre.scan
  have core : (scanL (S.B d)).epoch = S.epoch ∧ (scanL (S.B d)).first = S.first ∧ (scanL (S.B d)).recs = S.recs ∧ (scanL (S.B d)).valid = true ∧ (scanL (S.B d)).headed = hd := by
    simp only [Sc.core, Prod.mk.injEq] at hsc
    obtain ⟨a, b, c, d, e⟩ := hsc
    exact ⟨c, d, e, b, a⟩
  obtain ⟨c1, c2, c3, c4, c5⟩ := core
  have whole : (scanL (S.B d ++ bl)).core = (hd, true, S.epoch, f', R') := by
    rw [scanL_append, b.whole _ _ c1 c2 c3 c4, c5]
  have inl : ∀ j, (j < S.low ∨ S.low + 2 * S.count ≤ j) → (j < S.base S.half ∨ S.base S.half + S.count ≤ j) := fun j hj => by unfold LgV.base; omega
  rcases x3 with ⟨rfl, g1, r1⟩ | ⟨rfl, cr⟩
  · rw [if_neg (by simp)]
    unfold finV
    simp only [if_true]
    have hB : zRows d1 (S.base S.half) S.count = S.B d ++ bl := zRows_part (by rw [x1.size]; omega) (by rw [List.length_append, ← hpos, x1.size, ← hsz]; exact hfit) fun m hm => by rw [x1.size, ← hsz]; exact r1 m hm
    have hX := oth d1 x1.size x2
    refine ⟨x1, fun j hj => x2 j (inl j hj), .inl ⟨rfl, ⟨⟨x1.wf, by rw [x1.n]; exact hn, v.pre.cnt, hsz.trans x1.size.symm, hh, g1, ?_, ?_, ⟨hd, ?_, hor⟩, ?_, v.pre.ep⟩, ?_, ?_⟩, ⟨rfl, rfl, rfl, rfl, rfl, Nat.le_succ _⟩, rfl⟩⟩
    · show ∀ p ∈ zRows d1 (S.base S.half) S.count, okK p
      rw [hB]; exact left_kinds v.pre.kc b.good (.inr rfl)
    · rw [hX _ (by rfl) (by rfl) (by rfl)]; exact v.pre.ko
    · show (scanL (zRows d1 (S.base S.half) S.count)).core = _
      rw [hB]; exact whole
    · rw [hX _ (by rfl) (by rfl) (by rfl)]; exact v.pre.oth
    · show S.pos + bl.length = (zRows d1 (S.base S.half) S.count).length
      rw [hB, List.length_append, hpos]
    · intro m hm
      show (d1.z (S.base S.half + m)).rows = part S.size (zRows d1 (S.base S.half) S.count) m
      rw [hB]; exact r1 m hm
  · rw [if_pos (by simp)]
    unfold finV
    refine ⟨x1, fun j hj => x2 j (inl j hj), .inr (.inr ⟨rfl, rfl, fun picks torn => ?_⟩)⟩
    obtain ⟨hr, l, hl, hB⟩ := cr picks torn
    have hX := oth (d1.crash picks torn) x1.size hr
    have mk : ∀ (f2 : Nat) (R2 : List (List UInt8)), (scanL (S.B d ++ l)).core = (hd, true, S.epoch, f2, R2) → LgPre (d1.crash picks torn) { S with first := f2, recs := R2 } := by
      intro f2 R2 hcore
      refine ⟨x1.wf.crash picks torn, by show _ ≤ d1.n; rw [x1.n]; exact hn, v.pre.cnt, by show S.size = d1.size; rw [x1.size]; exact hsz, hh, crash_good x1.wf picks torn, ?_, ?_, ⟨hd, ?_, hor⟩, ?_, v.pre.ep⟩
      · show ∀ p ∈ zRows (d1.crash picks torn) (S.base S.half) S.count, okK p
        rw [hB]; exact left_kinds v.pre.kc b.good hl
      · rw [hX _ (by rfl) (by rfl) (by rfl)]; exact v.pre.ko
      · show (scanL (zRows (d1.crash picks torn) (S.base S.half) S.count)).core = _
        rw [hB]; exact hcore
      · rw [hX _ (by rfl) (by rfl) (by rfl)]; exact v.pre.oth
    rcases hl with hl | rfl
    · refine ⟨_, mk S.first S.recs ?_, .inl ⟨rfl, rfl, rfl, rfl, rfl, Nat.le_succ _⟩⟩
      rw [scanL_append, b.part l _ _ hl c1]; exact hsc
    · exact ⟨_, mk f' R' whole, .inr ⟨rfl, rfl, rfl, rfl, rfl, Nat.le_succ _⟩⟩
theorem turn_put {d : Dv} {S : LgV} {bl : List (List UInt8)} {f' : Nat} {R' : List (List UInt8)} (v : LgInv d S) (hno : S.count * S.size < S.pos + bl.length) (g : GrpOk (S.epoch + 1) f' R') : PutR d S bl f' R' (finV f' R' (turnV d S f' R')) := by
  have w := v.pre.wf
  have hn := v.pre.n
  have hsz := v.pre.size
  have hh := v.pre.half
  have hs := w.size
  have hcnt := v.pre.cnt
  have hhc : (1 - S.half) * S.count ≤ 1 * S.count := Nat.mul_le_mul_right _ (by omega)
  have hbn : S.base (1 - S.half) + S.count ≤ d.n := by unfold LgV.base; omega
  unfold turnV
  by_cases hroom : S.count * S.size < R'.length + 2
  · rw [if_pos hroom]
    unfold finV
    exact ⟨⟨w, rfl, rfl⟩, fun _ _ => rfl, .inr (.inl ⟨rfl, rfl, rfl, hno, hroom⟩)⟩
  rw [if_neg hroom]
  obtain ⟨cx, j, hj, c2, c3⟩ := clear_any S.count d (S.base (1 - S.half)) w hbn
  generalize d.clear (S.base (1 - S.half)) S.count = C at *
  obtain ⟨e1, d1⟩ := C
  simp only at cx c2 c3
  obtain ⟨hd, hsc, hor⟩ := v.pre.scan
  -- zones of this half
  have cur : ∀ (d2 : Dv), d2.size = d.size → (∀ j, (j < S.base (1 - S.half) ∨ S.base (1 - S.half) + S.count ≤ j) → (d2.z j).rows = (d.z j).rows) → zRows d2 (S.base S.half) S.count = S.B d := by
    intro d2 hz hr
    refine zRows_congr hz _ _ fun j h1 h2 => hr j ?_
    unfold LgV.base at *
    rcases (show S.half = 0 ∨ S.half = 1 by omega) with e | e
    · rw [e] at h1 h2 ⊢; simp at h1 h2 ⊢; omega
    · rw [e] at h1 h2 ⊢; simp at h1 h2 ⊢; omega
  have inl : ∀ j, (j < S.low ∨ S.low + 2 * S.count ≤ j) → (j < S.base (1 - S.half) ∨ S.base (1 - S.half) + S.count ≤ j) := fun j hj => by unfold LgV.base; omega
  -- the old log, as long as the new one does not count
  have old : ∀ (d2 : Dv), d2.Wf → d2.n = d.n → d2.size = d.size → AllGood d2 → (∀ j, (j < S.base (1 - S.half) ∨ S.base (1 - S.half) + S.count ≤ j) → (d2.z j).rows = (d.z j).rows) →
      (∀ p ∈ zRows d2 (S.base (1 - S.half)) S.count, okK p) → ((scanL (zRows d2 (S.base (1 - S.half)) S.count)).core = sc0.core ∨ (scanL (zRows d2 (S.base (1 - S.half)) S.count)).valid = false ∨ zRows d2 (S.base (1 - S.half)) S.count = S.X d) → LgPre d2 S := by
    intro d2 w2 hn2 hz2 g2 hr2 hk2 hx2
    have hB := cur d2 hz2 hr2
    refine ⟨w2, by rw [hn2]; exact hn, hcnt, by rw [hz2]; exact hsz, hh, g2, ?_, hk2, ⟨hd, ?_, hor⟩, ?_, v.pre.ep⟩
    · show ∀ p ∈ zRows d2 (S.base S.half) S.count, okK p
      rw [hB]; exact v.pre.kc
    · show (scanL (zRows d2 (S.base S.half) S.count)).core = _
      rw [hB]; exact hsc
    · rcases hx2 with hx | hx | hx
      · intro _ ho
        simp only [Sc.core, sc0, Prod.mk.injEq] at hx
        obtain ⟨h1, _, h3, _⟩ := hx
        have h3' : (scanL (S.X d2)).epoch = 0 := h3
        rw [h3']
        rcases ho with ho | ho
        · have : (scanL (zRows d2 (S.base (1 - S.half)) S.count)).headed = true := ho
          rw [h1] at this; cases this
        · exact v.pre.ep ho
      · intro h
        have h' : (scanL (zRows d2 (S.base (1 - S.half)) S.count)).valid = true := h
        rw [hx] at h'; cases h'
      · have hXX : S.X d2 = S.X d := hx
        rw [hXX]; exact v.pre.oth
  rcases c2 with ⟨rfl, rfl⟩ | rfl
  · rw [if_neg (by simp)]
    simp only
    have g1 : AllGood d1 := fun i => by rw [c3]; split <;> first | rfl | exact v.pre.good i
    have hgl := genL_length (S.epoch + 1) f' R'
    obtain ⟨x1, x2, x3⟩ := wrt_any cx.wf g1 (base := S.base (1 - S.half)) (cnt := S.count) (B := []) (bl := genL (S.epoch + 1) f' R') (by rw [cx.n]; exact hbn) (by rw [List.length_nil, hgl, cx.size, ← hsz]; omega) (fun p hp => (gen_good g p hp).1.1) (fun m hm => by rw [c3, if_pos (by omega)]; simp [part])
    rw [cx.size, ← hsz, List.length_nil] at x1 x2 x3
    simp only [List.nil_append] at x3
    generalize d1.wrt (S.base (1 - S.half)) S.size 0 (genL (S.epoch + 1) f' R') = W at *
    obtain ⟨e, d2⟩ := W
    simp only at x1 x2 x3
    have hr1 : ∀ i, (i < S.base (1 - S.half) ∨ S.base (1 - S.half) + S.count ≤ i) → (d1.z i).rows = (d.z i).rows := fun i hi => by rw [c3, if_neg (by omega)]
    have x2' : ∀ i, (i < S.base (1 - S.half) ∨ S.base (1 - S.half) + S.count ≤ i) → (d2.z i).rows = (d.z i).rows := fun i hi => by rw [x2 i hi, hr1 i hi]
    have nx := NxD.trans cx x1
    -- the new log
    have new : ∀ (d3 : Dv), d3.Wf → d3.n = d.n → d3.size = d.size → AllGood d3 → (∀ i, (i < S.base (1 - S.half) ∨ S.base (1 - S.half) + S.count ≤ i) → (d3.z i).rows = (d.z i).rows) → zRows d3 (S.base (1 - S.half)) S.count = genL (S.epoch + 1) f' R' → ∀ p o, LgPre d3 ⟨S.low, S.count, S.size, 1 - S.half, S.epoch + 1, p, f', R', o⟩ := by
      intro d3 w3 hn3 hz3 g3 hr3 hB p o
      have hX : (⟨S.low, S.count, S.size, 1 - S.half, S.epoch + 1, p, f', R', o⟩ : LgV).X d3 = S.B d := by
        have : 1 - (1 - S.half) = S.half := by omega
        unfold LgV.X
        simp only [LgV.base, this]
        exact cur d3 hz3 hr3
      refine ⟨w3, by rw [hn3]; exact hn, hcnt, by rw [hz3]; exact hsz, by show 1 - S.half ≤ 1; omega, g3, ?_, by rw [hX]; exact v.pre.kc, ⟨true, ?_, .inl rfl⟩, ?_, fun _ => by show 1 ≤ S.epoch + 1; omega⟩
      · show ∀ p ∈ zRows d3 (S.base (1 - S.half)) S.count, okK p
        rw [hB]
        intro p hp
        have := (gen_good g p hp).2.2
        unfold okK; omega
      · show (scanL (zRows d3 (S.base (1 - S.half)) S.count)).core = _
        rw [hB, scan_gen g]; rfl
      · rw [hX]
        intro _ _
        simp only [Sc.core, Prod.mk.injEq] at hsc
        rw [hsc.2.2.1]; exact Nat.lt_succ_self _
    rcases x3 with ⟨rfl, g2, r2⟩ | ⟨rfl, cr⟩
    · rw [if_neg (by simp)]
      unfold finV
      simp only [if_true]
      have hB : zRows d2 (S.base (1 - S.half)) S.count = genL (S.epoch + 1) f' R' := zRows_part (by rw [nx.size]; omega) (by rw [hgl, nx.size, ← hsz]; omega) fun m hm => by rw [nx.size, ← hsz]; exact r2 m hm
      refine ⟨nx, fun i hi => x2' i (inl i hi), .inl ⟨rfl, ⟨new d2 nx.wf nx.n nx.size g2 x2' hB _ _, ?_, ?_⟩, ⟨rfl, rfl, rfl, rfl, rfl, Nat.le_refl _⟩, rfl⟩⟩
      · show R'.length + 2 = (zRows d2 (S.base (1 - S.half)) S.count).length
        rw [hB, hgl]
      · intro m hm
        show (d2.z (S.base (1 - S.half) + m)).rows = part S.size (zRows d2 (S.base (1 - S.half)) S.count) m
        rw [hB]; exact r2 m hm
    · rw [if_pos (by simp)]
      unfold finV
      refine ⟨nx, fun i hi => x2' i (inl i hi), .inr (.inr ⟨rfl, rfl, fun picks torn => ?_⟩)⟩
      obtain ⟨hr, l, hl, hB⟩ := cr picks torn
      have hr' : ∀ i, (i < S.base (1 - S.half) ∨ S.base (1 - S.half) + S.count ≤ i) → ((d2.crash picks torn).z i).rows = (d.z i).rows := fun i hi => by rw [hr i hi, hr1 i hi]
      have hgk : ∀ p ∈ genL (S.epoch + 1) f' R', goodB p ∧ okK p := fun p hp => ⟨(gen_good g p hp).1, by have := (gen_good g p hp).2.2; unfold okK; omega⟩
      rcases hl with hl | rfl
      · refine ⟨S, old (d2.crash picks torn) (nx.wf.crash picks torn) nx.n nx.size (crash_good nx.wf picks torn) hr' ?_ ?_, .inl ⟨rfl, rfl, rfl, rfl, rfl, Nat.le_succ _⟩⟩
        · rw [hB]
          have := left_kinds (B := []) (fun p hp => by simp at hp) hgk (.inl hl)
          simpa using this
        · rw [hB]
          rcases scan_gen_left g (by omega) hl with h | h
          · exact .inl h
          · exact .inr (.inl h)
      · exact ⟨_, new (d2.crash picks torn) (nx.wf.crash picks torn) nx.n nx.size (crash_good nx.wf picks torn) hr' hB 0 false, .inr ⟨rfl, rfl, rfl, rfl, rfl, Nat.le_refl _⟩⟩
  · -- the power went while it was emptied
    rw [if_pos (by simp)]
    unfold finV
    refine ⟨cx, fun i hi => by have := inl i hi; show (d1.z i).rows = _; rw [c3, if_neg (by omega)], .inr (.inr ⟨rfl, rfl, fun picks torn => ⟨S, ?_, .inl ⟨rfl, rfl, rfl, rfl, rfl, Nat.le_succ _⟩⟩⟩)⟩
    have hz : ∀ i, ((d1.crash picks torn).z i).rows = if S.base (1 - S.half) ≤ i ∧ i < S.base (1 - S.half) + j then [] else (d.z i).rows := fun i => by
      rw [crash_keep cx.wf picks torn (by rw [c3]; split; rfl; exact v.pre.good i), c3]
      split <;> rfl
    have hzs : (d1.crash picks torn).size = d.size := cx.size
    have hx : zRows (d1.crash picks torn) (S.base (1 - S.half)) S.count = [] ∨ zRows (d1.crash picks torn) (S.base (1 - S.half)) S.count = S.X d := by
      rcases Nat.eq_zero_or_pos j with h0 | h0
      · exact .inr (zRows_congr hzs _ _ fun i h3 h4 => by rw [hz, if_neg (by omega)])
      · left
        obtain ⟨c, hc⟩ : ∃ c, S.count = c + 1 := ⟨S.count - 1, by omega⟩
        rw [hc, zRows, hz, if_pos (by omega), hzs]
        simp; omega
    refine old (d1.crash picks torn) (cx.wf.crash picks torn) cx.n hzs (crash_good cx.wf picks torn) (fun i hi => by rw [hz, if_neg (by omega)]) ?_ ?_
    · rcases hx with h | h
      · rw [h]; simp
      · rw [h]; exact v.pre.ko
    · rcases hx with h | h
      · rw [h]; exact .inl rfl
      · exact .inr (.inr h)
theorem put_any {d : Dv} {S : LgV} {bl : List (List UInt8)} {f' : Nat} {R' : List (List UInt8)} (v : LgInv d S) (b : Blk S.epoch S.first S.recs bl f' R') (g : GrpOk (S.epoch + 1) f' R') : PutR d S bl f' R' (putV d S bl f' R') := by
  unfold putV
  by_cases h : S.pos + bl.length ≤ S.count * S.size
  · rw [if_pos h]; exact wr_put v b h
  · rw [if_neg h]; exact turn_put v (by omega) g

/-! ### Where the power is on -/
theorem Live.append {d : Dv} (l : Live d) (i : Int) (p : List UInt8) : (d.append i p).1.2 ≠ 12 ∧ Live (d.append i p).2 := by
  unfold Dv.append
  split
  · exact ⟨by show (1 : Int) ≠ 12; decide, l⟩
  split
  · exact ⟨by show (3 : Int) ≠ 12; decide, l⟩
  rw [if_neg (by simp [l.dead])]
  split
  · exact ⟨by show (9 : Int) ≠ 12; decide, l.tick⟩
  · exact ⟨by show (0 : Int) ≠ 12; decide, l.tick.setZ _ _⟩
theorem Live.reset {d : Dv} (l : Live d) (i : Int) : (d.reset i).1 ≠ 12 ∧ Live (d.reset i).2 := by
  unfold Dv.reset
  split
  · exact ⟨by show (1 : Int) ≠ 12; decide, l⟩
  rw [if_neg (by simp [l.dead])]
  exact ⟨by show (0 : Int) ≠ 12; decide, l.tick.setZ _ _⟩
theorem Live.flush {d : Dv} (l : Live d) : d.flush.1 ≠ 12 ∧ Live d.flush.2 := by
  rw [flush_live l]
  exact ⟨by show (0 : Int) ≠ 12; decide, l.1, l.dead⟩
theorem Live.clear : ∀ (k : Nat) (d : Dv) (z : Nat), Live d → (d.clear z k).1 ≠ 12 ∧ Live (d.clear z k).2 := by
  intro k
  induction k with
  | zero => intro d z l; exact ⟨by show (0 : Int) ≠ 12; decide, l⟩
  | succ k ih =>
    intro d z l
    rw [Dv.clear]
    split
    · exact ih d (z + 1) l
    split
    · exact l.reset _
    · exact ih _ (z + 1) (l.reset _).2
theorem Live.puts {base size : Nat} : ∀ (r : List (List UInt8)) (d : Dv) (k : Nat), Live d → (d.puts base size k r).1 ≠ 12 ∧ Live (d.puts base size k r).2 := by
  intro r
  induction r with
  | nil => intro d k l; exact ⟨by show (0 : Int) ≠ 12; decide, l⟩
  | cons p r ih =>
    intro d k l
    rw [Dv.puts]
    split
    · exact l.append _ _
    · exact ih _ (k + 1) (l.append _ _).2
theorem Live.wrt {d : Dv} (l : Live d) (base size pos : Nat) (bl : List (List UInt8)) : (d.wrt base size pos bl).1 ≠ 12 ∧ Live (d.wrt base size pos bl).2 := by
  unfold Dv.wrt
  split
  · exact Live.puts _ _ _ l
  · exact (Live.puts _ _ _ l).2.flush
theorem Live.putV {d : Dv} (l : Live d) (S : LgV) (bl : List (List UInt8)) (f : Nat) (R : List (List UInt8)) : (putV d S bl f R).1 ≠ 12 ∧ Live (putV d S bl f R).2.1 := by
  unfold Go.Proofs.Ytippdkokbhejmaa.putV finV
  simp only
  split
  · unfold wrV
    split
    · exact l.wrt _ _ _ _
    · exact ⟨by show (0 : Int) ≠ 12; decide, (l.wrt _ _ _ _).2⟩
  · unfold turnV
    have lc := Live.clear S.count d (S.base (1 - S.half)) l
    split
    · exact ⟨by show (9 : Int) ≠ 12; decide, l⟩
    split
    · exact lc
    split
    · exact lc.2.wrt _ _ _ _
    · exact ⟨by show (0 : Int) ≠ 12; decide, (lc.2.wrt _ _ _ _).2⟩

end Go.Proofs.Ytippdkokbhejmaa
