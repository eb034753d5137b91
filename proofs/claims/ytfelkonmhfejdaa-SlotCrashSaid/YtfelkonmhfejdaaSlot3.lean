/-
  slot.write.
-/
import Derived.Test.YtfelkonmhfejdaaSlot2
namespace Go.Proofs.Ytfelkonmhfejdaa
set_option linter.unusedVariables false
set_option linter.unusedSimpArgs false

/-! ### What is written -/
def chunkL (t : List UInt8) (k : Nat) : List UInt8 := (t.drop (40 * k)).take 40
def nCh (t : List UInt8) : Nat := (t.length + 39) / 40
abbrev BQ := (Nat × Nat) × (Sl × List UInt8)
def cq (n : Nat) (L : List BQ) : List Value := L.flatMap fun x => blkV x.1.1 0 n x.1.2 x.2.1
def encQ (n : Nat) (x : BQ) : List UInt8 := encOf (preL x.1.1 0 n x.1.2 x.2.2)
def encS (n : Nat) (t : List UInt8) : List (List UInt8) := encOf (preL 3 0 n 0 []) :: ((List.range (nCh t)).map (fun k => encOf (preL 1 0 n 0 (chunkL t k))) ++ [encOf (preL 2 0 n (nCh t) (tailL t))])
theorem encS_len (n : Nat) (t : List UInt8) : (encS n t).length = nCh t + 2 := by simp [encS]
theorem chunkL_len (t : List UInt8) (k : Nat) : (chunkL t k).length ≤ 40 := by unfold chunkL; simp; omega
theorem tailL_len (t : List UInt8) : (tailL t).length = 8 := by simp [tailL, leB_length]
theorem cq_cons (n : Nat) (x : BQ) (D : List BQ) : cq n (x :: D) = blkV x.1.1 0 n x.1.2 x.2.1 ++ cq n D := rfl
theorem cq_length (n : Nat) : ∀ D, (cq n D).length = D.length * 5
  | [] => rfl
  | x :: D => by rw [cq_cons, List.length_append, cq_length n D]; simp only [blkV, List.length_cons, List.length_nil]; omega
theorem cq_append (n : Nat) (a b : List BQ) : cq n (a ++ b) = cq n a ++ cq n b := by simp [cq]
theorem cq_get (n : Nat) : ∀ (D : List BQ) (i j : Nat), j < 5 → (cq n D)[i * 5 + j]? = (D[i]?).bind fun x => (blkV x.1.1 0 n x.1.2 x.2.1)[j]?
  | [], i, j, _ => by simp [cq]
  | x :: D, 0, j, h => by rw [cq_cons, List.getElem?_append_left (by simp only [blkV, List.length_cons, List.length_nil]; omega)]; simp
  | x :: D, i + 1, j, h => by
    rw [cq_cons, List.getElem?_append_right (by simp only [blkV, List.length_cons, List.length_nil]; omega), show (i + 1) * 5 + j - (blkV x.1.1 0 n x.1.2 x.2.1).length = i * 5 + j by simp only [blkV, List.length_cons, List.length_nil]; omega, cq_get n D i j h]; simp
theorem ixq {h : Hp} {s : Sl} {n : Nat} {D : List BQ} (r : Rd 5 h s (cq n D)) {i : Int} (k : Nat) (hi : i = k) (hk : k < D.length) {K : Int → Int → Int → Int → Sl → Prop}
    (hK : K D[k].1.1 0 n D[k].1.2 D[k].2.1) : ∃ a : Addr, s.base = some a ∧ 0 ≤ i ∧ i < (s.len : Int) ∧
      ∃ c8 : Int, ∃ c9 : Int, ∃ c10 : Int, ∃ c11 : Int, ∃ c12 : Sl, hcell h (a.add (i.toNat * 5)) = some (.int .i64 c8) ∧ hcell h ((a.add (i.toNat * 5)).add 1) = some (.int .i64 c9) ∧ hcell h ((a.add (i.toNat * 5)).add 2) = some (.int .i64 c10) ∧ hcell h ((a.add (i.toNat * 5)).add 3) = some (.int .i64 c11) ∧ hcell h ((a.add (i.toNat * 5)).add 4) = some (.slice c12.base c12.len c12.cap) ∧ K c8 c9 c10 c11 c12 := by
  subst hi
  have hl := r.len
  rw [cq_length] at hl
  have g : ∀ j, j < 5 → (cq n D)[k * 5 + j]? = (blkV D[k].1.1 0 n D[k].1.2 D[k].2.1)[j]? := fun j hj => by
    rw [cq_get n D k j hj, List.getElem?_eq_getElem hk]; rfl
  obtain ⟨a, ha, h0⟩ := r.rd (k * 5 + 0) _ (by rw [g 0 (by omega)]; rfl)
  obtain ⟨a1, ha1, h1⟩ := r.rd (k * 5 + 1) _ (by rw [g 1 (by omega)]; rfl)
  obtain ⟨a2, ha2, h2⟩ := r.rd (k * 5 + 2) _ (by rw [g 2 (by omega)]; rfl)
  obtain ⟨a3, ha3, h3⟩ := r.rd (k * 5 + 3) _ (by rw [g 3 (by omega)]; rfl)
  obtain ⟨a4, ha4, h4⟩ := r.rd (k * 5 + 4) _ (by rw [g 4 (by omega)]; rfl)
  rw [ha] at ha1 ha2 ha3 ha4
  cases ha1; cases ha2; cases ha3; cases ha4
  exact ⟨a, ha, by omega, by omega, _, _, _, _, _, by simpa using h0, by rw [add_add]; simpa using h1, by rw [add_add]; simpa using h2, by rw [add_add]; simpa using h3, by rw [add_add]; simpa using h4, hK⟩

/-! ### Upon a device -/
noncomputable def Dv.wr (d : Dv) (lo hi size n : Nat) (t : List UInt8) : Int × Dv :=
  if (d.clear lo (hi - lo)).1 ≠ 0 then d.clear lo (hi - lo) else
  if ((d.clear lo (hi - lo)).2.puts lo size 0 (encS n t)).1 ≠ 0 then (d.clear lo (hi - lo)).2.puts lo size 0 (encS n t) else ((d.clear lo (hi - lo)).2.puts lo size 0 (encS n t)).2.flush

theorem write_spec {lo : Nat} {F : Nat → Nat} {h : Hp} {db sb : Nat} {d : Dv} {S : SlV} {ts tl : Sl} {t : List UInt8} (x : DevAt lo F h db d) (hlo : lo ≤ h.size) (row : Row h sb (slC db S ts)) (hF : F sb = 0) (i : Nat) (hi : i < 2) (hr : S.f i ≤ S.f (i + 1)) (hn : S.f (i + 1) ≤ d.n) (hsz : 1 ≤ S.size)
    (n : Nat) (hn40 : n ≤ 1099511627776) (rt : Rd 1 h tl (t.map bv)) (tb : ∀ a, tl.base = some a → F a.block = 0 ∧ a.block < h.size) (htl : t.length ≤ 1000000) :
    HCalls Try.prog fn_slot_Slots_write #[sp sb, .int .i64 (i : Int), .int .i64 (n : Int), .slice tl.base tl.len tl.cap] h fun r h' => r = .int .i64 (d.wr (S.f i) (S.f (i + 1)) S.size n t).1 ∧ DevTo lo F h h' db (d.wr (S.f i) (S.f (i + 1)) S.size n t).2 := by
  apply slot_Slots_write_vc
  unfold vcslot_Slots_write
  have w := x.1
  have hnz := w.zones
  have ltl := rt.lenB
  have hcap := rt.cap
  refine ⟨_, rfl, slC_f row i rfl (by omega) ?_⟩
  have ei : iAdd .i64 (i : Int) (1 : Int) = ((i + 1 : Nat) : Int) := by rw [iAdd64 (by omega)]; push_cast; rfl
  have hsb := row.lt
  refine ⟨fun z m h' => ∃ (j : Nat) (F' : Nat → Nat) (d' : Dv), z = ((S.f i + j : Nat) : Int) ∧ m + j = S.f (i + 1) - S.f i ∧ d.clear (S.f i) (S.f (i + 1) - S.f i) = d'.clear (S.f i + j) (S.f (i + 1) - S.f i - j) ∧ d'.n = d.n ∧ DevAt lo F' h' db d' ∧ (∀ b, b < h.size → F' b = F b) ∧ Chg F h h', S.f (i + 1) - S.f i,
    ⟨0, F, d, rfl, rfl, rfl, rfl, x, fun _ _ => rfl, .refl _ _⟩, ?_⟩
  rintro _ _ m h1 ⟨j, F1, d1, rfl, hm, hcl, hn1, x1, g1, c1⟩
  have row1 := row.chg c1 hF
  refine ⟨_, rfl, ?_⟩
  rw [ei]
  refine slC_f row1 (i + 1) rfl (by omega) (IfB.dec (fun hlt => ?_) (fun hge => ?_))
  · refine ⟨_, rfl, _, row1.get0 rfl, ?_⟩
    have hsub : S.f (i + 1) - S.f i - j = (S.f (i + 1) - S.f i - (j + 1)) + 1 := by omega
    rw [hsub, Dv.clear] at hcl
    have ez : iAdd .i64 ((S.f i + j : Nat) : Int) (1 : Int) = ((S.f i + (j + 1) : Nat) : Int) := by rw [iAdd64 (by omega)]; push_cast; omega
    refine (Pointer_spec x1 _).mono ?_
    rintro _ h1' ⟨hh1, ⟨hno, _⟩ | ⟨k', hk', hkn, rfl⟩⟩
    · exact absurd ⟨by omega, by rw [hn1]; omega⟩ hno
    obtain rfl := hh1.symm
    obtain rfl : k' = S.f i + j := by omega
    refine ⟨_, _, rfl, IfB.dec (fun hpos => ?_) (fun hz => ?_)⟩
    · rw [if_neg (by omega)] at hcl
      refine ⟨_, rfl, _, row1.get0 rfl, ?_⟩
      refine (Reset_spec x1 _).mono ?_
      rintro _ h2 ⟨rfl, t2⟩
      refine ⟨_, rfl, IfB.ne (fun hne => ?_) (fun heq => ?_)⟩
      · rw [if_pos hne] at hcl
        unfold Dv.wr
        rw [hcl, if_pos hne]
        exact ⟨rfl, DevTo.trans g1 c1 t2⟩
      · rw [if_neg (by omega)] at hcl
        obtain ⟨F2, x2, g2, c2⟩ := DevTo.trans g1 c1 t2
        exact ⟨m - 1, by omega, j + 1, F2, _, ez, by omega, hcl, by rw [reset_n, hn1], x2, g2, c2⟩
    · rw [if_pos (by omega)] at hcl
      exact ⟨m - 1, by omega, j + 1, F1, d1, ez, by omega, hcl, hn1, x1, g1, c1⟩
  have hj : S.f (i + 1) - S.f i - j = 0 := by omega
  rw [hj, Dv.clear] at hcl
  have s1 := c1.size
  have hF1 : F1 sb = 0 := by rw [g1 _ hsb]; exact hF
  have rt1 : Rd 1 h1 tl (t.map bv) := rt.eq fun a ha => c1.block _ (tb a ha).2 (tb a ha).1
  intro h2
  have e2 : Ext h1 h2 := alc_ext _ _ _
  have F1z : ∀ b, h1.size ≤ b → F1 b = 0 := fun b hb => by
    rcases Nat.eq_zero_or_pos (F1 b) with h0 | h0
    · exact h0
    · have := (x1.dom b (by omega)).2; omega
  let dq : Nat → BQ := fun k => ((1, 0), (cutSl tl ((40 * k : Nat) : Int) ((40 * k + (chunkL t k).length : Nat) : Int) (tl.cap : Int) 1, chunkL t k))
  let hq : BQ := ((3, 0), (Sl.nil, []))
  have hcl40 : ∀ k, 40 * k ≤ t.length → (chunkL t k).length = min 40 (t.length - 40 * k) := fun k hk => by unfold chunkL; simp
  refine ⟨fun l vat m h' => ∃ k : Nat, vat = ((40 * k : Nat) : Int) ∧ m + k = nCh t ∧ Ext h1 h' ∧ Own h1.size 5 h' l (cq n (hq :: (List.range k).map dq)), nCh t,
    ⟨0, rfl, rfl, e2, Own.alc h1 _ _ 1 5 rfl⟩, ?_⟩
  rintro _ l _ m2 h3 ⟨k, rfl, hmk, e3, ol⟩
  have s3 := e3.size
  have hnc : nCh t = (t.length + 39) / 40 := rfl
  have ll : l.len = k + 1 := by have := ol.len; rw [cq_length] at this; simp at this; omega
  refine IfB.dec (fun hlt => ?_) (fun hge => ?_)
  · have hmin : (if (tl.len : Int) < (iAdd .i64 ((40 * k : Nat) : Int) (40 : Int)) then (tl.len : Int) else (iAdd .i64 ((40 * k : Nat) : Int) (40 : Int))) = ((40 * k + (chunkL t k).length : Nat) : Int) := by
      have := hcl40 k (by omega)
      rw [iAdd64 (by omega)]
      split <;> omega
    rw [hmin]
    have hck := hcl40 k (by omega)
    refine ⟨by omega, by omega, by omega, by omega, ?_⟩
    intro h4
    refine AppC_own5 (news := blkV 1 0 n 0 (dq k).2.1) (l := cq n (hq :: (List.range k).map dq)) rfl (ol.ext (alc_ext h3 _ _)) (by rw [size_alc]; omega) rfl (RdC.alc h3 _ _) (blkV_ok _ _ _ _ _) (by rw [ll]; simp only; omega) (by rw [ll]; simp only; omega) fun r h5 o5 l5 k5 _ _ => ?_
    refine ⟨m2 - 1, by omega, k + 1, by rw [iAdd64 (by omega)]; push_cast; omega, by omega, (e3.toKeep.trans ((alc_ext h3 _ _).keep (by omega) |>.trans k5)).ext, ?_⟩
    have : cq n (hq :: (List.range (k + 1)).map dq) = cq n (hq :: (List.range k).map dq) ++ blkV 1 0 n 0 (dq k).2.1 := by
      rw [List.range_succ, List.map_append, ← List.cons_append, cq_append]; simp [cq, dq]
    rw [this]; exact o5
  have hk : k = nCh t := by omega
  subst hk
  refine (tail_spec (rt1.ext e3) (by omega)).mono ?_
  rintro _ h4 ⟨tt, rfl, ott, ltt, e4⟩
  refine ⟨tt, rfl, ?_⟩
  have s4 := e4.size
  have elb : iSub .i64 (l.len : Int) (1 : Int) = ((nCh t : Nat) : Int) := by rw [iSub64 (by omega)]; omega
  rw [elb]
  intro h5
  let cm : BQ := ((2, nCh t), (tt, tailL t))
  let L : List BQ := (hq :: (List.range (nCh t)).map dq) ++ [cm]
  refine AppC_own5 (news := blkV 2 0 n (nCh t) tt) (l := cq n (hq :: (List.range (nCh t)).map dq)) rfl ((ol.ext e4).ext (alc_ext h4 _ _)) (by rw [size_alc]; omega) rfl (RdC.alc h4 _ _) (blkV_ok _ _ _ _ _) (by rw [ll]; simp only; omega) (by rw [ll]; simp only; omega) fun s2 h6 o6 l6 k6 y6 _ => ?_
  have hcqL : cq n (hq :: (List.range (nCh t)).map dq) ++ blkV 2 0 n (nCh t) tt = cq n L := by
    show _ = cq n ((hq :: (List.range (nCh t)).map dq) ++ [cm]); rw [cq_append]; simp [cq, cm]
  rw [hcqL] at o6
  have e16 : Ext h1 h6 := (e3.toKeep.trans ((e4.trans (alc_ext h4 _ _)).keep (by omega) |>.trans k6)).ext
  have hLl : L.length = nCh t + 2 := by simp [L]
  have hLenc : L.map (encQ n) = encS n t := by
    simp only [L, List.map_cons, List.map_append, List.map_map, List.map_nil, List.cons_append, encS]
    rfl
  have l6' : s2.len = nCh t + 2 := by simp only at l6; omega
  have s6 := e16.size
  have s46 : h4.size ≤ h6.size := by have := k6.size; have := (alc_ext h4 (blkV 2 0 n (nCh t) tt) ty_frame_Block).size; exact Nat.le_trans this (by assumption)
  have x6 := x1.ext e16
  -- everything that is read from here on
  have body : ∀ y (hy : y < L.length), okB L[y].1.1 0 n L[y].1.2 ∧ L[y].2.2.length ≤ 40 ∧ Rd 1 h6 L[y].2.1 (L[y].2.2.map bv) ∧ ∀ a, L[y].2.1.base = some a → F1 a.block = 0 ∧ a.block < h6.size := by
    intro y hy
    rcases Nat.lt_trichotomy y (nCh t + 1) with h1' | h1' | h1'
    · rcases Nat.eq_zero_or_pos y with h0 | h0
      · subst h0
        exact ⟨⟨by show (1 : Int) ≤ ((3 : Nat) : Int) ∧ ((3 : Nat) : Int) ≤ 4; omega, by omega, by omega, by show (0 : Int) ≤ ((0 : Nat) : Int) ∧ ((0 : Nat) : Int) ≤ 1048576; omega⟩, Nat.zero_le _, Rd.nil _ _, fun a ha => (by cases ha)⟩
      · obtain ⟨z, rfl⟩ : ∃ z, y = z + 1 := ⟨y - 1, by omega⟩
        have hLy : L[z + 1] = dq z := by
          simp only [L, List.cons_append, List.getElem_cons_succ]
          rw [List.getElem_append_left (by simp; omega), List.getElem_map, List.getElem_range]
        rw [hLy]
        have hcz := hcl40 z (by omega)
        refine ⟨⟨by show (1 : Int) ≤ ((1 : Nat) : Int) ∧ ((1 : Nat) : Int) ≤ 4; omega, by omega, by omega, by show (0 : Int) ≤ ((0 : Nat) : Int) ∧ ((0 : Nat) : Int) ≤ 1048576; omega⟩, chunkL_len t z, ?_, fun a ha => ?_⟩
        · have := (rt1.ext e16).cutB (lo := 40 * z) (hi := 40 * z + (chunkL t z).length) (m := tl.cap) (by omega) (by omega) (by omega)
          have hc : ((t.drop (40 * z)).take (40 * z + (chunkL t z).length - 40 * z)) = chunkL t z := by
            rw [Nat.add_sub_cancel_left]; unfold chunkL; rw [List.length_take]
            rcases Nat.le_total 40 (t.drop (40 * z)).length with h | h
            · rw [Nat.min_eq_left h]
            · rw [Nat.min_eq_right h, List.take_of_length_le (Nat.le_refl _), List.take_of_length_le h]
          rw [hc] at this
          exact this
        · obtain ⟨a', ha', hab⟩ : ∃ a', tl.base = some a' ∧ a.block = a'.block := by
            simp only [dq, cutSl] at ha
            split at ha
            · exact ⟨a, ha, rfl⟩
            · obtain ⟨a', ha', rfl⟩ := Option.map_eq_some_iff.1 ha
              exact ⟨a', ha', add_block _ _⟩
          rw [hab, g1 _ (tb a' ha').2]
          exact ⟨(tb a' ha').1, by have := (tb a' ha').2; omega⟩
    · subst h1'
      have hLy : L[nCh t + 1] = cm := by
        simp only [L, List.cons_append, List.getElem_cons_succ]
        rw [List.getElem_append_right (by simp)]; simp
      rw [hLy]
      refine ⟨⟨by show (1 : Int) ≤ ((2 : Nat) : Int) ∧ ((2 : Nat) : Int) ≤ 4; omega, by omega, by omega, by show (0 : Int) ≤ ((nCh t : Nat) : Int) ∧ ((nCh t : Nat) : Int) ≤ _; omega⟩, by show (tailL t).length ≤ 40; rw [tailL_len]; omega, ?_, fun a ha => ?_⟩
      · refine (ott.toRd.ext (alc_ext h4 (blkV 2 0 n (nCh t) tt) ty_frame_Block)).eq fun a ha => y6 _ (by have := (ott.lt ha).2; have := (alc_ext h4 (blkV 2 0 n (nCh t) tt) ty_frame_Block).size; exact Nat.lt_of_lt_of_le (by assumption) this) fun a' ha' => ?_
        have h1 := (ott.lt ha).1
        have h2 := (ol.lt ha').2
        omega
      · have := (ott.lt ha); exact ⟨F1z _ (by omega), by omega⟩
    · omega
  have rq6 := o6.toRd
  have hF6 : ∀ b, h1.size ≤ b → F1 b = 0 := F1z
  refine ⟨fun y m h' => ∃ (k : Nat) (F' : Nat → Nat) (d' : Dv), y = k ∧ m + k = L.length ∧ (d1.puts (S.f i) S.size 0 (encS n t) = d'.puts (S.f i) S.size k ((encS n t).drop k)) ∧ DevAt lo F' h' db d' ∧ (∀ b, b < h6.size → F' b = F1 b) ∧ Chg F1 h6 h', L.length,
    ⟨0, F1, d1, rfl, rfl, by rw [List.drop_zero], x6, fun _ _ => rfl, .refl _ _⟩, ?_⟩
  rintro _ _ m7 h7 ⟨k, F7, d7, rfl, hmk7, hp7, x7, g7, c7⟩
  have s7 := c7.size
  have row7 : Row h7 sb (slC db S ts) := (row1.ext e16).chg c7 hF1
  have hsb7 := row7.lt
  have hF7 : F7 sb = 0 := by rw [g7 _ (by omega)]; exact hF1
  have g07 : ∀ b, b < h.size → F7 b = F b := fun b hb => by rw [g7 b (by omega), g1 b hb]
  have c07 : Chg F h h7 := (c1.trans g1 (e16.chg F1)).trans g1 c7
  refine IfB.dec (fun hlt => ?_) (fun hge => ?_)
  · have hk : k < L.length := by omega
    have hke : k < (encS n t).length := by rw [encS_len]; omega
    obtain ⟨bok, bl, brd, bb⟩ := body k hk
    have rq7 : Rd 5 h7 s2 (cq n L) := rq6.eq fun a ha => c7.block _ (o6.lt ha).2 (hF6 _ (o6.lt ha).1)
    have brd7 : Rd 1 h7 L[k].2.1 (L[k].2.2.map bv) := brd.eq fun a ha => c7.block _ (bb a ha).2 (bb a ha).1
    refine ixq rq7 k rfl hk ?_
    intro h8
    refine put5 fun h9 e9 r9 => r9.get5 ?_
    refine (Encode_spec _ _ _ _ (brd7.ext e9)).mono ?_
    have henc : (encS n t)[k] = encOf (preL L[k].1.1 0 n L[k].1.2 L[k].2.2) := by
      have : (L.map (encQ n))[k]? = (encS n t)[k]? := by rw [hLenc]
      rw [List.getElem?_map, List.getElem?_eq_getElem hk, List.getElem?_eq_getElem hke] at this
      exact (Option.some.inj this).symm
    rintro _ h10 ⟨e10, ⟨hno, _⟩ | ⟨_, hno, _⟩ | ⟨_, _, p, rfl, op, lp⟩⟩
    · exact absurd bok hno
    · omega
    refine ⟨p, _, rfl, ?_⟩
    have hpe : encOf (preL ((L[k].1.1 : Nat) : Int).toNat (0 : Int).toNat ((n : Nat) : Int).toNat ((L[k].1.2 : Nat) : Int).toNat L[k].2.2) = (encS n t)[k] := by
      rw [henc]; simp only [Int.toNat_natCast]; rfl
    rw [hpe] at op
    have e710 := e9.trans e10
    have x10 := x7.ext e710
    have row10 := row7.ext e710
    have s9 := e9.size
    have hd : (encS n t).drop k = (encS n t)[k] :: (encS n t).drop (k + 1) := List.drop_eq_getElem_cons hke
    rw [hd, Dv.puts] at hp7
    have ez : iAdd .i64 ((S.f i : Nat) : Int) (iQuo .i64 (k : Int) (S.size : Int)) = ((S.f i + k / S.size : Nat) : Int) := by
      have hq : k / S.size ≤ k := Nat.div_le_self _ _
      have : (k : Int).tdiv (S.size : Int) = ((k / S.size : Nat) : Int) := by rw [Int.tdiv_eq_ediv_of_nonneg (by omega)]; rfl
      rw [iQuo64 (by omega), this]
      generalize k / S.size = q at hq ⊢
      rw [iAdd64 (by omega)]; push_cast; rfl
    refine ⟨fun e h' => e = (d7.append ((S.f i + k / S.size : Nat) : Int) (encS n t)[k]).1.2 ∧ DevTo lo F7 h7 h' db (d7.append ((S.f i + k / S.size : Nat) : Int) (encS n t)[k]).2, ?_, ?_⟩
    · refine .yes rfl ?_
      obtain ⟨ob, hob, rob⟩ := row10.only
      refine ⟨onlyB sb ob, sub_only hob, _, rfl, _, rob.get0 rfl, _, rfl, slC_f rob i rfl (by omega) ⟨_, rfl, _, rob.get rfl, by omega, ?_⟩⟩
      rw [ez]
      refine (Append_spec x10 (by have := c1.size; have := e710.size; omega) _ op.toRd fun a ha => ?_).mono ?_
      · rcases Nat.eq_zero_or_pos (F7 a.block) with h0 | h0
        · exact h0
        · have := (x7.dom a.block (by omega)).2; have := (op.lt ha).1; omega
      · rintro _ h11 ⟨rfl, t11⟩
        refine ⟨_, _, rfl, ?_, rfl, DevTo.trans (fun _ _ => rfl) (e710.chg F7) t11⟩
        obtain ⟨F11, x11, g11, c11⟩ := t11
        exact sub_only (by rw [c11.block sb row10.lt hF7]; exact hob)
    · rintro _ e h11 ⟨rfl, t11⟩
      refine IfB.ne (fun hne => ?_) (fun heq => ?_)
      · rw [if_pos hne] at hp7
        unfold Dv.wr
        rw [hcl, if_neg (by simp), hp7, if_pos hne]
        exact ⟨rfl, DevTo.trans g07 c07 t11⟩
      · rw [if_neg (by omega)] at hp7
        obtain ⟨F11, x11, g11, c11⟩ := DevTo.trans g7 c7 t11
        exact ⟨m7 - 1, by omega, k + 1, F11, _, by rw [iAdd64 (by omega)]; push_cast; rfl, by omega, hp7, x11, g11, c11⟩
  · have hk : k = L.length := by omega
    rw [List.drop_of_length_le (by rw [encS_len]; omega), Dv.puts] at hp7
    refine ⟨_, rfl, _, row7.get0 rfl, ?_⟩
    refine (Flush_spec x7).mono ?_
    rintro _ h8 ⟨rfl, t8⟩
    refine ⟨_, rfl, ?_⟩
    unfold Dv.wr
    rw [hcl, if_neg (by simp), hp7, if_neg (by simp)]
    exact ⟨rfl, DevTo.trans g07 c07 t8⟩

end Go.Proofs.Ytfelkonmhfejdaa
