/-
  seglog: what a half's blocks say, reckoned by the code: commit, mark, read.
-/
import Derived.Test.YtippdkokbhejmaaSeg0
import Derived.Test.YtippdkokbhejmaaFrame3
namespace Go.Proofs.Ytippdkokbhejmaa
set_option linter.unusedVariables false
set_option linter.unusedSimpArgs false

/-! ### A row of one's own that may begin in the midst of its block -/
structure OwnF (lo sz : Nat) (h : Hp) (s : Sl) (l : List Value) : Prop where
  len : l.length = s.len * sz
  le : s.len ≤ s.cap
  row : (s.base = none ∧ s.cap = 0) ∨ ∃ b o c e, s.base = some ⟨b, o, none⟩ ∧ lo ≤ b ∧ h[b]? = some (.cells c e (0, 0)) ∧ o + s.cap * sz ≤ c.size ∧ (c.toList.drop o).take (s.len * sz) = l
theorem Own.toF {lo sz : Nat} {h : Hp} {s : Sl} {l : List Value} (o : Own lo sz h s l) : OwnF lo sz h s l := by
  refine ⟨o.len, o.le, ?_⟩
  rcases o.row with h1 | ⟨b, c, e, h1, h2, h3, h4, h5⟩
  · exact .inl h1
  · exact .inr ⟨b, 0, c, e, h1, h2, h3, by omega, by rw [List.drop_zero]; exact h5⟩
theorem OwnF.lt {lo sz : Nat} {h : Hp} {s : Sl} {l : List Value} (o : OwnF lo sz h s l) {a : Addr} (ha : s.base = some a) : lo ≤ a.block ∧ a.block < h.size := by
  rcases o.row with ⟨h1, _⟩ | ⟨b, q, c, e, h1, h2, h3, _⟩
  · rw [h1] at ha; cases ha
  · rw [h1] at ha; cases ha; exact ⟨h2, (Array.getElem?_eq_some_iff.1 h3).1⟩
theorem OwnF.rd {lo sz : Nat} {h : Hp} {s : Sl} {l : List Value} (o : OwnF lo sz h s l) : RdC h s.base l := by
  intro i v hv
  rcases o.row with ⟨h1, h2⟩ | ⟨b, q, c, e, h1, h2, h3, h4, h5⟩
  · have e0 : s.len = 0 := by have := o.le; omega
    have : l = [] := List.eq_nil_of_length_eq_zero (by rw [o.len, e0]; simp)
    subst this; simp at hv
  · refine ⟨_, h1, ?_⟩
    rw [add_none, hcell_blk h3]
    rw [← h5, List.getElem?_take] at hv
    split at hv
    · simpa using hv
    · cases hv
theorem OwnF.toRd {lo sz : Nat} {h : Hp} {s : Sl} {l : List Value} (o : OwnF lo sz h s l) : Rd sz h s l := ⟨o.len, o.le, o.rd⟩
theorem OwnF.eq {lo sz : Nat} {h h' : Hp} {s : Sl} {l : List Value} (o : OwnF lo sz h s l) (e : ∀ a, s.base = some a → h'[a.block]? = h[a.block]?) : OwnF lo sz h' s l := by
  refine ⟨o.len, o.le, ?_⟩
  rcases o.row with h1 | ⟨b, q, c, t, h1, h2, h3, h4, h5⟩
  · exact .inl h1
  · exact .inr ⟨b, q, c, t, h1, h2, (e _ h1).trans h3, h4, h5⟩
/-- what stands behind so many. -/
theorem OwnF.drop {lo : Nat} {h : Hp} {s : Sl} {l : List Value} (o : OwnF lo 1 h s l) {k : Nat} (hk : k ≤ s.len) : OwnF lo 1 h (cutSl s (k : Int) (s.len : Int) (s.cap : Int) 1) (l.drop k) := by
  have hl := o.len
  have hc := o.le
  refine ⟨?_, ?_, ?_⟩
  · simp only [cutSl, Int.toNat_natCast, List.length_drop]; omega
  · simp only [cutSl, Int.toNat_natCast]; omega
  · simp only [cutSl, Int.toNat_natCast]
    rcases o.row with ⟨h1, h2⟩ | ⟨b, q, c, t, h1, h2, h3, h4, h5⟩
    · left
      refine ⟨?_, by omega⟩
      split
      · exact h1
      · rw [h1]; rfl
    · right
      by_cases e : s.cap = k
      · rw [if_pos e]
        refine ⟨b, q, c, t, h1, h2, h3, by omega, ?_⟩
        have h0 : (s.len - k) * 1 = 0 := by omega
        rw [h0, List.take_zero, List.drop_of_length_le (by omega)]
      · rw [if_neg e, h1]
        refine ⟨b, q + k * 1, c, t, by rw [Option.map_some, add_none], h2, h3, by omega, ?_⟩
        rw [Nat.mul_one, Nat.mul_one, ← List.drop_drop, ← h5, List.drop_take]
        congr 1; omega
theorem OwnF.app {lo e sz by_ : Nat} {zc : Array Value} {s x : Sl} {h : Hp} {K : Sl → Hp → Prop} {l news : List Value} (hz : zc.size = sz) (o : OwnF lo sz h s l) (hlo : lo ≤ h.size)
    (hn : news.length = x.len * sz) (hr : RdC h x.base news) (hok : ∀ v ∈ news, cellOk v = true) (hb : (s.len + x.len) * by_ ≤ 140737488355328) (hl : s.len + x.len < 9223372036854775807)
    (hK : ∀ r h', OwnF lo sz h' r (l ++ news) → r.len = s.len + x.len → Keep lo h h' → (∀ b, b < h.size → (∀ a, s.base = some a → b ≠ a.block) → h'[b]? = h[b]?) → (∀ a, r.base = some a → (∃ a', s.base = some a' ∧ a.block = a'.block) ∨ a.block = h.size) → K r h') : AppC e sz by_ zc s x h K := by
  refine ⟨news, hn, hr, hb, hl, fun hc => ?_, fun hc => ⟨l, o.len, o.rd, fun c h1 h2 => ?_⟩⟩
  · rcases o.row with ⟨h1, h2⟩ | ⟨b, q, c, t, h1, h2, h3, h4, h5⟩
    · have hx0 : x.len = 0 ∧ s.len = 0 := by omega
      have : news = [] := List.eq_nil_of_length_eq_zero (by rw [hn, hx0.1]; simp)
      subst this
      unfold stAll
      rw [h1]
      have : (⟨none, s.len + x.len, s.cap⟩ : Sl) = s := by cases s; simp_all
      rw [this]
      exact hK s h (by simpa using o) (by omega) (.refl _ _) (fun _ _ _ => rfl) (fun a ha => .inl ⟨a, ha, rfl⟩)
    · unfold stAll
      rw [h1]
      show stCells ((⟨b, q, none⟩ : Addr).add (s.len * sz)) 0 news h _
      rw [add_none]
      have hfit : s.len * sz + x.len * sz ≤ s.cap * sz := by rw [← Nat.add_mul]; exact Nat.mul_le_mul_right _ hc
      refine stCells_row news _ 0 h c h3 (by rw [hn]; omega) hok ?_
      intro h' c' g1 g2 g3 g4 g5
      refine hK _ h' ⟨?_, hc, .inr ⟨b, q, c', t, rfl, h2, g1, by rw [g4]; exact h4, ?_⟩⟩ rfl ⟨by omega, fun k hk => g3 k (by omega)⟩ (fun k hk hne => g3 k (hne _ h1)) (fun a ha => .inl ⟨_, h1, by cases ha; rfl⟩)
      · rw [List.length_append, o.len, hn, Nat.add_mul]
      · apply List.ext_getElem?
        intro j
        show ((c'.toList.drop q).take ((s.len + x.len) * sz))[j]? = _
        rw [List.getElem?_take, List.getElem?_drop, Array.getElem?_toList, g5 (q + j), List.getElem?_append, o.len, Nat.add_mul]
        by_cases e1 : j < s.len * sz
        · rw [if_pos (by omega), if_neg (by omega), if_pos e1, ← h5, List.getElem?_take, if_pos e1, List.getElem?_drop, Array.getElem?_toList]
        · by_cases e2 : j < s.len * sz + x.len * sz
          · rw [if_pos e2, if_pos (by rw [hn]; omega), if_neg e1]
            congr 1; omega
          · rw [if_neg e2, if_neg e1]
            exact (List.getElem?_eq_none (by rw [hn]; omega)).symm
  · have o' := o
    refine hK _ _ ⟨by rw [List.length_append, o.len, hn, Nat.add_mul], h1, .inr ⟨h.size, 0, _, e, rfl, hlo, by simp; rfl, ?_, ?_⟩⟩ rfl (Ext.keep (Ext.push _ _) hlo) (fun b hb _ => (Ext.push h _).block b hb) (fun a ha => .inr (by cases ha; rfl))
    · simp only [Array.size_append, List.size_toArray, size_zeroCells, hz]
      rw [List.length_append, o.len, hn, Nat.zero_add, ← Nat.add_mul, ← Nat.add_mul]
      exact Nat.mul_le_mul_right _ (by omega)
    · simp only [Array.toList_append, List.append_assoc, List.drop_zero]
      rw [← List.append_assoc, show (s.len + x.len) * sz = (l ++ news).length by rw [List.length_append, o.len, hn, Nat.add_mul]]
      exact List.take_left

/-! ### A scan in memory -/
def scV (s : Sc) (rs ws : Sl) : List Value := [.bool s.headed, .bool s.valid, .int .i64 (s.epoch : Int), .int .i64 (s.first : Int), .slice rs.base rs.len rs.cap, .slice ws.base ws.len ws.cap]
/-- a block of bytes that is none of the scan's. -/
def Away (lo : Nat) (h : Hp) (sb : Nat) (rs ws : Sl) (b : Nat) : Prop := lo ≤ b ∧ b < h.size ∧ b ≠ sb ∧ (∀ a, rs.base = some a → b ≠ a.block) ∧ ∀ a, ws.base = some a → b ≠ a.block
structure ScM (lo : Nat) (h : Hp) (sb : Nat) (rs ws : Sl) (rr : List (Sl × List UInt8)) (D : List WB) : Prop where
  own : OwnF lo 1 h rs (rr.map fun p => slV p.1)
  reach : ∀ p ∈ rr, Rd 1 h p.1 (p.2.map bv)
  rb : ∀ p ∈ rr, ∀ a, p.1.base = some a → Away lo h sb rs ws a.block
  wown : Own lo 5 h ws (wcs D)
  weach : ∀ x ∈ D, Rd 1 h x.2 ((dB x.1).map bv)
  wb : ∀ x ∈ D, ∀ a, x.2.base = some a → Away lo h sb rs ws a.block
  rne : ∀ a, rs.base = some a → a.block ≠ sb
  wne : ∀ a, ws.base = some a → a.block ≠ sb
  rw : ∀ a a', rs.base = some a → ws.base = some a' → a.block ≠ a'.block
theorem ScM.upd {lo : Nat} {h h' : Hp} {sb : Nat} {rs ws : Sl} {rr : List (Sl × List UInt8)} {D : List WB} (x : ScM lo h sb rs ws rr D) (hs : h.size ≤ h'.size) (e : ∀ b, b < h.size → b ≠ sb → h'[b]? = h[b]?) : ScM lo h' sb rs ws rr D :=
  ⟨x.own.eq fun a ha => e _ (x.own.lt ha).2 (x.rne a ha), fun p hp => (x.reach p hp).eq fun a ha => e _ (x.rb p hp a ha).2.1 (x.rb p hp a ha).2.2.1, fun p hp a ha => by
    obtain ⟨q1, q2, q3, q4, q5⟩ := x.rb p hp a ha
    exact ⟨q1, by omega, q3, q4, q5⟩, x.wown.eq fun a ha => e _ (x.wown.lt ha).2 (x.wne a ha), fun p hp => (x.weach p hp).eq fun a ha => e _ (x.wb p hp a ha).2.1 (x.wb p hp a ha).2.2.1, fun p hp a ha => by
    obtain ⟨q1, q2, q3, q4, q5⟩ := x.wb p hp a ha
    exact ⟨q1, by omega, q3, q4, q5⟩, x.rne, x.wne, x.rw⟩
theorem ScM.ext {lo : Nat} {h h' : Hp} {sb : Nat} {rs ws : Sl} {rr : List (Sl × List UInt8)} {D : List WB} (x : ScM lo h sb rs ws rr D) (e : Ext h h') : ScM lo h' sb rs ws rr D := x.upd e.size fun b hb _ => e.block b hb
theorem ScM.nowait {lo : Nat} {h : Hp} {sb : Nat} {rs ws : Sl} {rr : List (Sl × List UInt8)} {D : List WB} (x : ScM lo h sb rs ws rr D) : ScM lo h sb rs Sl.nil rr [] :=
  ⟨x.own, x.reach, fun p hp a ha => by
    obtain ⟨q1, q2, q3, q4, q5⟩ := x.rb p hp a ha
    exact ⟨q1, q2, q3, q4, fun a ha => (by cases ha)⟩, Own.nil _ _ _, fun p hp => by simp at hp, fun p hp => by simp at hp, x.rne, fun a ha => (by cases ha), fun a a' _ ha => (by cases ha)⟩
structure ScAt (lo : Nat) (h : Hp) (sb : Nat) (s : Sc) (rs ws : Sl) (rr : List (Sl × List UInt8)) (D : List WB) : Prop where
  row : Row h sb (scV s rs ws)
  sb0 : lo ≤ sb
  mem : ScM lo h sb rs ws rr D
  recs : rr.map (·.2) = s.recs
  wait : D.map (·.1) = s.wait
  good : ∀ x ∈ D, goodB x.1
theorem ScAt.ext {lo : Nat} {h h' : Hp} {sb : Nat} {s : Sc} {rs ws : Sl} {rr : List (Sl × List UInt8)} {D : List WB} (x : ScAt lo h sb s rs ws rr D) (e : Ext h h') : ScAt lo h' sb s rs ws rr D := ⟨x.row.ext e, x.sb0, x.mem.ext e, x.recs, x.wait, x.good⟩
theorem ScAt.rl {lo : Nat} {h : Hp} {sb : Nat} {s : Sc} {rs ws : Sl} {rr : List (Sl × List UInt8)} {D : List WB} (x : ScAt lo h sb s rs ws rr D) : rs.len = s.recs.length := by
  have := x.mem.own.len
  have h2 := congrArg List.length x.recs
  simp at this h2; omega
theorem ScAt.wl {lo : Nat} {h : Hp} {sb : Nat} {s : Sc} {rs ws : Sl} {rr : List (Sl × List UInt8)} {D : List WB} (x : ScAt lo h sb s rs ws rr D) : ws.len = s.wait.length ∧ ws.len = D.length := by
  have := x.mem.wown.len
  have h2 := congrArg List.length x.wait
  rw [wcs_length] at this
  simp at h2; omega
/-- a cell of the scan's own block changes. -/
theorem ScAt.put {lo : Nat} {h h' : Hp} {sb : Nat} {s s' : Sc} {rs ws : Sl} {rr : List (Sl × List UInt8)} {D : List WB} (x : ScAt lo h sb s rs ws rr D) (row : Row h' sb (scV s' rs ws)) (hs : h'.size = h.size) (e : ∀ b, b ≠ sb → h'[b]? = h[b]?) (h1 : s'.recs = s.recs) (h2 : s'.wait = s.wait) : ScAt lo h' sb s' rs ws rr D :=
  ⟨row, x.sb0, x.mem.upd (by omega) fun b _ hb => e b hb, by rw [h1]; exact x.recs, by rw [h2]; exact x.wait, x.good⟩
theorem ScAt.drop {lo : Nat} {h h' : Hp} {sb : Nat} {s s' : Sc} {rs ws : Sl} {rr : List (Sl × List UInt8)} {D : List WB} (x : ScAt lo h sb s rs ws rr D) (row : Row h' sb (scV s' rs Sl.nil)) (hs : h'.size = h.size) (e : ∀ b, b ≠ sb → h'[b]? = h[b]?) (h1 : s'.recs = s.recs) (h2 : s'.wait = []) : ScAt lo h' sb s' rs Sl.nil rr [] :=
  ⟨row, x.sb0, (x.mem.upd (by omega) fun b _ hb => e b hb).nowait, by rw [h1]; exact x.recs, by rw [h2]; rfl, fun p hp => by simp at hp⟩
/-- what a step of the scan makes of it. -/
def ScTo (lo : Nat) (sb : Nat) (s : Sc) (h h' : Hp) : Prop := Keep lo h h' ∧ ∃ rs ws rr D, ScAt lo h' sb s rs ws rr D
theorem ScAt.setWait {lo : Nat} {h : Hp} {sb : Nat} {s : Sc} {rs ws : Sl} {rr : List (Sl × List UInt8)} {D : List WB} (x : ScAt lo h sb s rs ws rr D) {K : Hp → Prop} (hK : ∀ h', ScAt lo h' sb { s with wait := [] } rs Sl.nil rr [] → h'.size = h.size → (∀ b, b ≠ sb → h'[b]? = h[b]?) → K h') :
    ∃ a : Addr, (some ⟨sb, 0, none⟩ : Option Addr) = some a ∧ StOk h (a.add 5) ∧ Lt (hset h (a.add 5) (.slice Sl.nil.base Sl.nil.len Sl.nil.cap)) fun h' => K h' := by
  obtain ⟨ok, r1, o1, s1⟩ := x.row.set (i := 5) (by simp [scV]) (.slice Sl.nil.base Sl.nil.len Sl.nil.cap)
  exact ⟨_, rfl, ok, hK _ (x.drop (s' := { s with wait := [] }) r1 s1 o1 rfl rfl) s1 o1⟩
theorem goodB_lt {p : List UInt8} (g : goodB p) : (1 ≤ dK p ∧ dK p ≤ 4) ∧ dE p ≤ 4294967295 ∧ dS p ≤ 1099511627776 ∧ dL p ≤ 1048576 ∧ (dB p).length ≤ 40 := by
  obtain ⟨h64, hn, ⟨⟨k1, k2⟩, ⟨e1, e2⟩, ⟨s1, s2⟩, ⟨l1, l2⟩⟩, _⟩ := g
  refine ⟨⟨by omega, by omega⟩, by omega, by omega, by omega, ?_⟩
  unfold dB; rw [List.length_take]; omega

/-! ### mark -/
theorem mark_spec {lo : Nat} {h : Hp} {sb : Nat} {s : Sc} {rs ws : Sl} {rr : List (Sl × List UInt8)} {D : List WB} (x : ScAt lo h sb s rs ws rr D) (hf : s.first ≤ 1099511627776) (hr : s.recs.length ≤ 1000000) (k : Nat) (hk : k ≤ 1099511627776) :
    HCalls Try.prog fn_seglog_scan_mark #[.pointer (some ⟨sb, 0, none⟩), .int .i64 (k : Int)] h fun r h' => r = .tuple #[] ∧ ScTo lo sb (markS s k) h h' := by
  apply seglog_scan_mark_vc
  unfold vcseglog_scan_mark
  have hrl := x.rl
  refine x.setWait fun h1 x1 s1 o1 => ?_
  have kp : ∀ {h2 : Hp}, h2.size = h1.size → (∀ b, b ≠ sb → h2[b]? = h1[b]?) → Keep lo h h2 := fun hs ho => ⟨by omega, fun b hb => by have := x.sb0; rw [ho b (by omega), o1 b (by omega)]⟩
  have stay : markS s k = { s with wait := [] } → ((.tuple #[] : Value) = .tuple #[] ∧ ScTo lo sb (markS s k) h h1) := fun e => ⟨rfl, by rw [e]; exact ⟨kp rfl fun _ _ => rfl, _, _, _, _, x1⟩⟩
  refine ⟨_, rfl, (s.first : Int), x1.row.get rfl, IfB.dec (fun h1' => ⟨_, rfl, (s.first : Int), x1.row.get rfl, _, rfl, rs, x1.row.get rfl, ?_⟩) (fun h1' => stay (by unfold markS; rw [if_neg (by omega)]))⟩
  rw [iAdd64 (by omega)]
  refine IfB.dec (fun h2' => ⟨_, rfl, _, rfl, ?_⟩) (fun h2' => stay (by unfold markS; rw [if_neg (by omega)]))
  have hm : markS s k = { s with recs := s.recs.drop (k - s.first), first := k, wait := [] } := by unfold markS; rw [if_pos ⟨by omega, by omega⟩]
  have ek : iSub .i64 (k : Int) (s.first : Int) = ((k - s.first : Nat) : Int) := by rw [iSub64 (by omega)]; omega
  have hle := x.mem.own.le
  have go : 0 ≤ iSub .i64 (k : Int) (s.first : Int) ∧ iSub .i64 (k : Int) (s.first : Int) ≤ (rs.len : Int) ∧ (rs.len : Int) ≤ (rs.cap : Int) ∧ (rs.cap : Int) ≤ (rs.cap : Int) ∧
        ∃ a6 : Addr, (some ⟨sb, 0, none⟩ : Option Addr) = some a6 ∧
        StOk h1 (a6.add 4) ∧
        Lt (hset h1 (a6.add 4) (.slice (cutSl rs (iSub .i64 (k : Int) (s.first : Int)) (rs.len : Int) (rs.cap : Int) 1).base (cutSl rs (iSub .i64 (k : Int) (s.first : Int)) (rs.len : Int) (rs.cap : Int) 1).len (cutSl rs (iSub .i64 (k : Int) (s.first : Int)) (rs.len : Int) (rs.cap : Int) 1).cap)) fun vh1 =>
        True ∧
        ∃ a7 : Addr, (some ⟨sb, 0, none⟩ : Option Addr) = some a7 ∧
        StOk vh1 (a7.add 3) ∧
        Lt (hset vh1 (a7.add 3) (.int .i64 (k : Int))) fun vh2 => (Value.tuple #[] = .tuple #[] ∧ ScTo lo sb (markS s k) h vh2) := by
    rw [ek, hm]
    refine ⟨by omega, by omega, by omega, Int.le_refl _, _, rfl, ?_⟩
    obtain ⟨ok2, r2, o2, s2⟩ := x1.row.set (i := 4) (by simp [scV]) (.slice (cutSl rs ((k - s.first : Nat) : Int) (rs.len : Int) (rs.cap : Int) 1).base (cutSl rs ((k - s.first : Nat) : Int) (rs.len : Int) (rs.cap : Int) 1).len (cutSl rs ((k - s.first : Nat) : Int) (rs.len : Int) (rs.cap : Int) 1).cap)
    refine ⟨ok2, trivial, _, rfl, ?_⟩
    obtain ⟨ok3, r3, o3, s3⟩ := r2.set (i := 3) (by simp [scV]) (.int .i64 (k : Int))
    refine ⟨ok3, rfl, kp (by rw [s3, s2]) fun b hb => by rw [o3 b hb, o2 b hb], cutSl rs ((k - s.first : Nat) : Int) (rs.len : Int) (rs.cap : Int) 1, Sl.nil, rr.drop (k - s.first), [], ?_⟩
    have m1 := x1.mem
    have m3 := m1.upd (h' := hset (hset h1 ((⟨sb, 0, none⟩ : Addr).add 4) (.slice (cutSl rs ((k - s.first : Nat) : Int) (rs.len : Int) (rs.cap : Int) 1).base (cutSl rs ((k - s.first : Nat) : Int) (rs.len : Int) (rs.cap : Int) 1).len (cutSl rs ((k - s.first : Nat) : Int) (rs.len : Int) (rs.cap : Int) 1).cap)) ((⟨sb, 0, none⟩ : Addr).add 3) (.int .i64 (k : Int))) (by rw [s3, s2]; exact Nat.le_refl _) fun b _ hb => by rw [o3 b hb, o2 b hb]
    have hb : ∀ a, (cutSl rs ((k - s.first : Nat) : Int) (rs.len : Int) (rs.cap : Int) 1).base = some a → ∃ a', rs.base = some a' ∧ a.block = a'.block := fun a ha => cut_base ha
    refine ⟨r3, x.sb0, ⟨?_, fun p hp => m3.reach p (List.mem_of_mem_drop hp), fun p hp a ha => ?_, m3.wown, fun p hp => by simp at hp, fun p hp => by simp at hp, fun a ha => ?_, fun a ha => (by cases ha), fun a a' _ ha => (by cases ha)⟩, ?_, rfl, fun p hp => by simp at hp⟩
    · rw [List.map_drop]; exact m3.own.drop (by omega)
    · obtain ⟨q1, q2, q3, q4, q5⟩ := m3.rb p (List.mem_of_mem_drop hp) a ha
      refine ⟨q1, q2, q3, fun a2 ha2 => ?_, q5⟩
      obtain ⟨a', ha', e⟩ := hb a2 ha2
      rw [e]; exact q4 a' ha'
    · obtain ⟨a', ha', e⟩ := hb a ha
      rw [e]; exact m3.rne a' ha'
    · rw [List.map_drop, x1.recs]
  exact ⟨⟨rs, x1.row.get rfl, trivial, _, x1.row.get rfl, trivial, go⟩, ⟨_, x1.row.get rfl, trivial, rs, x1.row.get rfl, trivial, go⟩⟩

/-! ### commit -/
theorem range'_get {n f k : Nat} (hk : k < n) : (List.range' f n)[k]? = some (f + k) := by
  rw [List.getElem?_range' hk]; simp
theorem commit_spec {lo : Nat} {h : Hp} {sb : Nat} {s : Sc} {rs ws : Sl} {rr : List (Sl × List UInt8)} {D : List WB} (x : ScAt lo h sb s rs ws rr D) (hlo : lo ≤ h.size) (hf : s.first ≤ 1099511627776) (hr : s.recs.length ≤ 100000) (hw : s.wait.length ≤ 100000)
    {c : List UInt8} (gc : goodB c) {u : Sl} (ru : Rd 1 h u ((dB c).map bv)) (ub : ∀ a, u.base = some a → a.block ≠ sb ∧ a.block < h.size) :
    HCalls Try.prog fn_seglog_scan_commit #[.pointer (some ⟨sb, 0, none⟩), .agg #[.int .i64 (dK c : Int), .int .i64 (dE c : Int), .int .i64 (dS c : Int), .int .i64 (dL c : Int), .slice u.base u.len u.cap]] h fun r h' => r = .tuple #[] ∧ ScTo lo sb (commitS s c) h h' := by
  apply seglog_scan_commit_vc
  unfold vcseglog_scan_commit
  intro h0
  have e0 : Ext h h0 := alc_ext _ _ _
  have rc : Row h0 h.size (blkV (dK c) (dE c) (dS c) (dL c) u) := alc_row h _ _
  have x0 := x.ext e0
  have hsb := x.row.lt
  obtain ⟨_, _, _, hcl, hcb⟩ := goodB_lt gc
  obtain ⟨hwl, hwD⟩ := x.wl
  have hrl := x.rl
  refine ⟨_, rfl, ws, x0.row.get rfl, ?_⟩
  refine x0.setWait fun h1 x1 s1 o1 => ?_
  have se0 := e0.size
  have rc1 : Row h1 h.size (blkV (dK c) (dE c) (dS c) (dL c) u) := rc.eq (o1 _ (by omega))
  have ru1 : Rd 1 h1 u ((dB c).map bv) := (ru.ext e0).eq fun a ha => o1 _ (ub a ha).1
  have w1 : Rd 5 h1 ws (wcs D) := (x0.mem.wown.toRd).eq fun a ha => o1 _ (x0.mem.wne a ha)
  have we1 : ∀ y ∈ D, Rd 1 h1 y.2 ((dB y.1).map bv) := fun y hy => (x0.mem.weach y hy).eq fun a ha => o1 _ (x0.mem.wb y hy a ha).2.2.1
  have kp1 : Keep lo h h1 := ⟨by omega, fun b hb => by have := x.sb0; rw [o1 b (by omega), e0.block b (by omega)]⟩
  have s2 : ScAt lo h1 sb { s with wait := [] } rs Sl.nil rr [] := x1
  have stay : ∀ {h2 : Hp}, Ext h1 h2 → commitS s c = { s with wait := [] } → ((.tuple #[] : Value) = .tuple #[] ∧ ScTo lo sb (commitS s c) h h2) := fun e hh => ⟨rfl, by rw [hh]; exact ⟨kp1.trans (e.keep (by have := kp1.size; omega)), _, _, _, _, s2.ext e⟩⟩
  have gt : ∀ {h2 : Hp}, Ext h1 h2 → ∀ {i : Nat} {v : Value}, (blkV (dK c) (dE c) (dS c) (dL c) u)[i]? = some v → hcell h2 ((nw h).add i) = some v := fun e i v hv => (rc1.ext e).get hv
  refine ⟨_, gt (.refl _) rfl, IfB.dec (fun hbig => stay (.refl _) (by unfold commitS; rw [if_pos (by omega)])) (fun hfit => ?_)⟩
  have hk : dL c ≤ D.length := by omega
  have hdn : ¬ s.wait.length < dL c := by omega
  have esub : iSub .i64 (ws.len : Int) (dL c : Int) = ((D.length - dL c : Nat) : Int) := by rw [iSub64 (by omega)]; omega
  refine ⟨_, gt (.refl _) rfl, ?_⟩
  rw [esub]
  have hcap := w1.cap
  refine ⟨by omega, by omega, by omega, Int.le_refl _, _, rfl, _, s2.row.get rfl, _, rfl, rs, s2.row.get rfl, ?_⟩
  generalize hLd : cutSl ws ((D.length - dL c : Nat) : Int) (ws.len : Int) (ws.cap : Int) 5 = L
  have rL1 : Rd 5 h1 L (wcs (D.drop (D.length - dL c))) := by
    have := w1.cut (lo := D.length - dL c) (hi := ws.len) (m := ws.cap) (by omega) (Nat.le_refl _) hcap
    rw [hLd, wcs_drop, List.take_of_length_le (by rw [wcs_length, List.length_drop]; omega)] at this
    exact this
  have hLl : L.len = dL c := by rw [← hLd, cut_len]; omega
  generalize hD' : D.drop (D.length - dL c) = D' at rL1
  have hDl : D'.length = dL c := by rw [← hD', List.length_drop]; omega
  have hmem : ∀ y ∈ D', y ∈ D := fun y hy => by rw [← hD'] at hy; exact List.mem_of_mem_drop hy
  have hwd : s.wait.drop (s.wait.length - dL c) = D'.map (·.1) := by
    rw [← x.wait, List.length_map, ← List.map_drop, hD']
  have eadd : iAdd .i64 (s.first : Int) (rs.len : Int) = ((s.first + s.recs.length : Nat) : Int) := by rw [iAdd64 (by omega)]; push_cast; omega
  rw [eadd]
  refine ⟨fun i m h' => ∃ k : Nat, i = k ∧ m + k = D'.length ∧ Ext h1 h' ∧ ∀ j, j < k → ∀ hj : j < D'.length, dS D'[j].1 = s.first + s.recs.length + j, D'.length, ⟨0, rfl, rfl, .refl _, fun j hj => by omega⟩, ?_⟩
  rintro _ _ m h2 ⟨k, rfl, hm, e2, hall⟩
  refine IfB.dec (fun hlt => ?_) (fun hge => ?_)
  · have hk' : k < D'.length := by omega
    obtain ⟨_, _, hds, _⟩ := goodB_lt (x.good D'[k] (hmem _ (List.getElem_mem hk')))
    refine ixw (rL1.ext e2) k rfl hk' ?_
    intro h3
    refine put5 fun h4 e4 r4 => ?_
    refine ⟨_, r4.get rfl, ?_⟩
    rw [iAdd64 (by omega)]
    refine IfB.ne (fun hne => stay (e2.trans e4) ?_) (fun heq => ⟨m - 1, by omega, k + 1, by rw [iAdd64 (by omega)]; push_cast; rfl, by omega, e2.trans e4, fun j hj hjl => ?_⟩)
    · unfold commitS
      rw [if_neg hdn, if_pos]
      intro he
      rw [hwd] at he
      have h1' : ((D'.map (·.1)).map dS)[k]? = (List.range' (s.first + s.recs.length) (dL c))[k]? := by rw [he]
      rw [range'_get (by omega), List.getElem?_map, List.getElem?_map, List.getElem?_eq_getElem hk'] at h1'
      simp only [Option.map_some, Option.some.injEq] at h1'
      exact hne (by rw [h1']; push_cast; rfl)
    · rcases Nat.lt_or_ge j k with h | h
      · exact hall j h hjl
      · obtain rfl : j = k := by omega
        have : (dS D'[j].1 : Int) = ((s.first + s.recs.length : Nat) : Int) + (j : Int) := heq
        omega
  have hkD : k = D'.length := by omega
  subst hkD
  have hS : (s.wait.drop (s.wait.length - dL c)).map dS = List.range' (s.first + s.recs.length) (dL c) := by
    rw [hwd]
    apply List.ext_getElem?
    intro j
    rw [List.getElem?_map, List.getElem?_map]
    by_cases hj : j < D'.length
    · rw [List.getElem?_eq_getElem hj, range'_get (by omega)]
      simp only [Option.map_some]
      rw [hall j hj hj]
    · rw [List.getElem?_eq_none (by omega), List.getElem?_eq_none (by rw [List.length_range']; omega)]; rfl
  refine ⟨u, gt e2 rfl, ?_⟩
  refine (bodies_spec (rL1.ext e2) (by omega)).mono ?_
  rintro _ h3 ⟨t, rfl, ot, lt', e3⟩
  refine ⟨t, rfl, e3, ?_⟩
  have e13 := e2.trans e3
  -- the bodies as rows
  have rows3 : ∀ {h9 : Hp} {t9 : Sl}, Ext h1 h9 → Rd 1 h9 t9 (D'.map fun x => slV x.2) → RowsR h9 t9 (D'.map fun y => (y.2, dB y.1)) := fun e9 r9 => ⟨by rw [List.map_map]; exact r9, fun p hp => by
    obtain ⟨y, hy, rfl⟩ := List.mem_map.1 hp
    exact (we1 y (hmem y hy)).ext e9⟩
  have hb40 : ∀ p ∈ D'.map fun y : WB => (y.2, dB y.1), p.2.length ≤ 1000 := fun p hp => by
    obtain ⟨y, hy, rfl⟩ := List.mem_map.1 hp
    have := (goodB_lt (x.good y (hmem y hy))).2.2.2.2
    show (dB y.1).length ≤ 1000; omega
  refine (seglogSum_spec (rows3 e13 ot.toRd) hb40 (by rw [List.length_map]; omega)).mono ?_
  have hmm : (D'.map fun y : WB => (y.2, dB y.1)).map (·.2) = (s.wait.drop (s.wait.length - dL c)).map dB := by rw [hwd, List.map_map, List.map_map]; rfl
  rw [hmm]
  rintro _ h4 ⟨v, rfl, ov, lv, e4⟩
  refine ⟨v, rfl, e3.trans e4, ?_⟩
  have e14 := e13.trans e4
  refine (slEqual_spec (ru1.ext e14) ov.toRd (by omega)).mono ?_
  rintro _ h4' ⟨rfl, hh⟩
  obtain rfl := hh.symm
  refine ⟨_, rfl, e3.trans e4, IfB.not (IfB.dec (fun heq => ?_) (fun hne => stay e14 (by unfold commitS; rw [if_neg hdn, if_neg (fun h => h hS), if_pos hne])))⟩
  have hc : commitS s c = { s with valid := true, recs := s.recs ++ (s.wait.drop (s.wait.length - dL c)).map dB, wait := [] } := by
    unfold commitS
    rw [if_neg hdn, if_neg (fun h => h hS), if_neg (fun h => h heq)]
  have x4 := s2.ext e14
  obtain ⟨ok5, r5, o5, s5⟩ := x4.row.set (i := 1) (by simp [scV]) (.bool true)
  refine ⟨_, rfl, ok5, ?_⟩
  generalize hset h4 ((⟨sb, 0, none⟩ : Addr).add 1) (.bool true) = h5 at *
  have x5 : ScAt lo h5 sb { s with wait := [], valid := true } rs Sl.nil rr [] := x4.put (s' := { s with wait := [], valid := true }) r5 s5 o5 rfl rfl
  obtain ⟨ob, hob, rob⟩ := x5.row.only
  have hwb : ∀ a, ws.base = some a → a.block ≠ sb := fun a ha => x.mem.wne a ha
  have rL5 : Rd 5 h5 L (wcs D') := (rL1.ext e14).eq fun a ha => by
    rw [← hLd] at ha
    obtain ⟨a', ha', e⟩ := cut_base ha
    rw [e]; exact o5 _ (hwb a' ha')
  refine ⟨onlyB sb ob, sub_only hob, _, rfl, rs, rob.get rfl, ?_⟩
  refine (bodies_spec rL5 (by omega)).mono ?_
  rintro _ h6 ⟨t6, rfl, ot6, lt6, e6⟩
  have hsb5 : sb < h5.size := x5.row.lt
  have ob6 : h6[sb]? = some ob := by rw [e6.block _ hsb5]; exact hob
  refine ⟨t6, rfl, sub_only ob6, ?_⟩
  have x6 := x5.ext e6
  have kp6 : Keep lo h h6 := kp1.trans ((e14.keep (by have := kp1.size; omega)).trans (⟨by rw [s5]; exact Nat.le_refl _, fun b hb => by have := x.sb0; rw [o5 b (by omega)]⟩ : Keep lo h4 h5) |>.trans (e6.keep (by have := x.sb0; omega)))
  have hlo6 : lo ≤ h6.size := by have := kp6.size; omega
  have hrs := x6.rl
  have hrs' : rs.len = s.recs.length := hrs
  refine x6.mem.own.app (news := D'.map fun x => slV x.2) rfl hlo6 (by rw [lt6]; simp) ot6.rd (fun v hv => by obtain ⟨y, _, rfl⟩ := List.mem_map.1 hv; rfl) (by rw [lt6]; omega) (by rw [lt6]; omega) fun q h7 o7 l7 k7 y7 b7 => ?_
  have rsb : ∀ a, rs.base = some a → a.block ≠ sb := x6.mem.rne
  have hsb6 : sb < h6.size := x6.row.lt
  have ob7 : h7[sb]? = some ob := by rw [y7 sb hsb6 fun a ha e => rsb a ha e.symm]; exact ob6
  refine ⟨sub_only ob7, _, rfl, ?_⟩
  have r7 : Row h7 sb (scV { s with wait := [], valid := true } rs Sl.nil) := x6.row.eq (by rw [ob7, ob6])
  obtain ⟨ok8, r8, o8, s8⟩ := r7.set (i := 4) (by simp [scV]) (.slice q.base q.len q.cap)
  refine ⟨ok8, rfl, kp6.trans (k7.trans ⟨by rw [s8]; exact Nat.le_refl _, fun b hb => by have := x.sb0; rw [o8 b (by omega)]⟩), q, Sl.nil, rr ++ D'.map (fun y => (y.2, dB y.1)), [], ?_⟩
  have hq : ∀ a, q.base = some a → (∃ a', rs.base = some a' ∧ a.block = a'.block) ∨ a.block = h6.size := b7
  have qne : ∀ a, q.base = some a → a.block ≠ sb := fun a ha => by
    rcases hq a ha with ⟨a', ha', e⟩ | e
    · rw [e]; exact rsb a' ha'
    · omega
  -- what is neither the scan's block nor its records' row
  have same : ∀ b, b < h6.size → b ≠ sb → (∀ a, rs.base = some a → b ≠ a.block) → (hset h7 ((⟨sb, 0, none⟩ : Addr).add 4) (.slice q.base q.len q.cap))[b]? = h6[b]? := fun b hb h1 h2 => by rw [o8 b h1, y7 b hb h2]
  have sz8 : h6.size ≤ (hset h7 ((⟨sb, 0, none⟩ : Addr).add 4) (.slice q.base q.len q.cap)).size := by rw [s8]; exact k7.size
  have aw : ∀ b, lo ≤ b → b < h6.size → b ≠ sb → (∀ a, rs.base = some a → b ≠ a.block) → Away lo (hset h7 ((⟨sb, 0, none⟩ : Addr).add 4) (.slice q.base q.len q.cap)) sb q Sl.nil b := fun b h1 h2 h3 h4 => ⟨h1, by omega, h3, fun a ha => by
    rcases hq a ha with ⟨a', ha', e⟩ | e
    · rw [e]; exact h4 a' ha'
    · omega, fun a ha => (by cases ha)⟩
  have wsA : ∀ y ∈ D', ∀ a, y.2.base = some a → lo ≤ a.block ∧ a.block < h6.size ∧ a.block ≠ sb ∧ ∀ a', rs.base = some a' → a.block ≠ a'.block := fun y hy a ha => by
    obtain ⟨q1, q2, q3, q4, q5⟩ := x.mem.wb y (hmem y hy) a ha
    exact ⟨q1, by have := kp6.size; omega, q3, q4⟩
  rw [hc]
  refine ⟨r8, x.sb0, ⟨?_, fun p hp => ?_, fun p hp a ha => ?_, Own.nil _ _ _, fun p hp => by simp at hp, fun p hp => by simp at hp, qne, fun a ha => (by cases ha), fun a a' _ ha => (by cases ha)⟩, ?_, rfl, fun p hp => by simp at hp⟩
  · have : (rr ++ D'.map fun y : WB => (y.2, dB y.1)).map (fun p => slV p.1) = rr.map (fun p => slV p.1) ++ D'.map fun x => slV x.2 := by rw [List.map_append, List.map_map]; rfl
    rw [this]
    exact o7.eq fun a ha => o8 _ (qne a ha)
  · rcases List.mem_append.1 hp with hp | hp
    · exact (x6.mem.reach p hp).eq fun a ha => by
        obtain ⟨q1, q2, q3, q4, q5⟩ := x6.mem.rb p hp a ha
        exact same _ q2 q3 q4
    · obtain ⟨y, hy, rfl⟩ := List.mem_map.1 hp
      have r6 : Rd 1 h6 y.2 ((dB y.1).map bv) := (((we1 y (hmem y hy)).ext e14).eq fun a ha => o5 _ (wsA y hy a ha).2.2.1).ext e6
      exact r6.eq fun a ha => by
        obtain ⟨q1, q2, q3, q4⟩ := wsA y hy a ha
        exact same _ q2 q3 q4
  · rcases List.mem_append.1 hp with hp | hp
    · obtain ⟨q1, q2, q3, q4, q5⟩ := x6.mem.rb p hp a ha
      exact aw _ q1 q2 q3 q4
    · obtain ⟨y, hy, rfl⟩ := List.mem_map.1 hp
      obtain ⟨q1, q2, q3, q4⟩ := wsA y hy a ha
      exact aw _ q1 q2 q3 q4
  · show (rr ++ D'.map fun y : WB => (y.2, dB y.1)).map (·.2) = s.recs ++ _
    rw [List.map_append, x.recs, hmm]

end Go.Proofs.Ytippdkokbhejmaa
